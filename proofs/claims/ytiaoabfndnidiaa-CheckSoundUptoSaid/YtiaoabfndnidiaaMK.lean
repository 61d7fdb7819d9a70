/-
 Part 11 of the proof over the checker:walks and plain laws.
-/
import Derived.Test.YtiaoabfndnidiaaMJ
import Derived.Test.YtiaoabfndnidiaaRows
import Derived.ProofKit
import Derived.HandedShaped
import Derived.OpenShut
import Derived.JoinedCond
import Derived.Test.YtiaoabfndnidiaaMF
set_option maxRecDepth 100000
set_option maxHeartbeats 8000000
set_option linter.unusedSimpArgs false
set_option linter.unusedVariables false
namespace Go.Proofs.Ytiaoabfndnidiaa
open Go.RowKit
theorem aQ0:SliceTy Try.prog 28 38 1 24:=jI Try.underlying28 (by kernel_rfl:(Try.prog.info? 38).map (λi=>(i.zero,i.size,i.bytes))=some (some (.slice none 0 0),1,24)) rfl (by decide)
theorem zB (s:Sp)(c:Cl)(v1 v2 v3 v4 v5 vc:Value)(B:Nat)(w:World)(hru:s.rule=2\/s.rule=3\/s.rule=6\/s.rule=7)(hs:RdS w B s v1 v2 v3 v4 v5)(hc:Rd w B (aT c) vc)(hB:B<=w.heap.size)(hf:FairC c):
 Calls Try.prog 49 #[.agg #[.int .i64 s.rule,v1,v2,v3,v4,v5],vc] w (oN (bA s c) w):=by
 have hl:=hf.len;rcases hru with h | h | h | h
 . exact vK s c v1 v2 v3 v4 v5 vc B w h hs hc hB (by omega) hf.sz hf.zc
 . exact xN s c v1 v2 v3 v4 v5 vc B w h hs hc hB (by omega) hf.sz hf.zc
 . exact xO s c v1 v2 v3 v4 v5 vc B w h hs hc hB (by omega)
 exact xP s c v1 v2 v3 v4 v5 vc B w h hs hc hB (by omega)
theorem RdS.more {w:World} {B B':Nat} {s:Sp} {v1 v2 v3 v4 v5:Value} (h:RdS w B s v1 v2 v3 v4 v5)(hB:B<=B'):RdS w B' s v1 v2 v3 v4 v5:=
 ⟨h.parents.more hB,h.lits.more hB,h.right.more hB,h.pos.more hB,h.clause.more hB⟩
theorem aA0 {α:Type} {l:List α} (h:l.length=2):∃a b,l=[a,b]:=by
 match l,h with
 | [a,b],_=>exact⟨a,b,rfl⟩
theorem sQ {α:Type} (l:List α)(p:α->Bool)(d:α):((List.range l.length).any λk=>p (l[k]?.getD d))=l.any p:=by
 rw[Bool.eq_iff_iff,List.any_eq_true,List.any_eq_true];constructor
 . rintro⟨k,hk,h⟩;have hk:=List.mem_range.1 hk;rw[List.getElem?_eq_getElem hk]at h;exact⟨_,List.getElem_mem hk,h⟩
 rintro⟨x,hx,h⟩;obtain⟨k,hk,rfl⟩:=List.mem_iff_getElem.1 hx;exact⟨k,List.mem_range.2 hk,by rw[List.getElem?_eq_getElem hk];exact h⟩
theorem aD8 (inp:List Cl)(ps:List Sp)(s:Sp)(vi vp v1 v2 v3 v4 v5:Value)(B:Nat)(w:World)(hi:Rd w B (eY inp) vi)(hp:Rd w B (gO ps) vp)(hs:RdS w B s v1 v2 v3 v4 v5)(hB:B<=w.heap.size)
 (hpar:∀k∈s.parents,0<=k/\k<ps.length) (hrng:∀q∈ps,∀x∈q.clause,kX x=true) (hzs:∀q∈ps,aR q.clause<=10000000000) (hpl:s.parents.length<=2000000):
 Calls Try.prog 36 #[.agg #[vi,vp],.agg #[.int .i64 s.rule,v1,v2,v3,v4,v5]] w (oN (cF inp ps s) w):=by
 obtain⟨Ai,ci,rfl,hi1,hi2,hi3⟩:=Rd.row_form (show Rd w B (.sl 1 (inp.map λc=>[aT c])) vi from hi);obtain⟨Ap,cp,rfl,hp1,hp2,hp3⟩:=Rd.row_form (show Rd w B (.sl 6 (ps.map eZ)) vp from hp);have Hi:=Lh hi;have Hp:=Lh hp;have Hs:=Lh hs;clear hi hp hs;by_cases hr1:s.rule=1
 . have hq1:(s.rule==1)=true:=by simp[hr1]
   have hrm:cF inp ps s=if aY s 0 1 0 false=false\/kA s 0<0\/(inp.length:Int)<=kA s 0 then none else inp[li s 0]? :=by unfold cF;rw[if_pos hr1]
   clear hpar hrng hzs hpl hr1;cases hnum:aY s 0 1 0 false with
   | false=>
    have hno:cF inp ps s=none:=(by rw[hrm,if_pos (.inl hnum)]);have Hno:=Lh hno;have HNum:=Lh hnum;obtain⟨i,a2,o2,c2,-⟩:∃(i:Int) (a2 o2 c2:Nat),True:=⟨0,0,0,0,trivial⟩;have V2:=Lh (rfl:v2=v2);clear hno hnum hrm;go_enter Try.func36,Try.ntmps36;go_upto_region 1 with fail
    obtain⟨hx1,hx2,hB2,hz2⟩:=aO w (.cells #[.slice Ai inp.length ci,.slice Ap ps.length cp] 66) (.cells #[.int .i64 s.rule,v1,v2,v3,v4,v5] 45);have hx1:aL w.heap.size 66 (.slice Ai inp.length ci) (.slice Ap ps.length cp) _:=hx1;have hx2:dH (w.heap.size+1) 45 (.int .i64 s.rule) v1 v2 v3 v4 v5 _:=hx2;generalize (w.alloc (.cells #[.slice Ai inp.length ci,.slice Ap ps.length cp] 66)).alloc (.cells #[.int .i64 s.rule,v1,v2,v3,v4,v5] 45)=w2 at hx1 hx2 hB2 hz2 ⊢;have HX1:=Lh hx1;have HX2:=Lh hx2;have HB2:=Lh hB2;obtain⟨y0,y1,-⟩:=hx1.cells;obtain⟨x0,x1,x2,x3,x4,x5⟩:=hx2.cells;clear hx1 hx2 hB2;go_upto_region 2 with fail
    refine rg 20 (λ_ w'=>Below w2.heap.size w2 w') ?_;intro wd hwd hbd;refine⟨?_,λhS=>?_⟩
    . exact hwd ▸ hbd
    refine tk 0 (.agg #[.int .i64 s.rule,v1,v2,v3,v4,v5]) hS ?_ λhS=>?_
    . intro w' L hn hw;have o3:=(HX2.out.low hw).cells;simp[execOp,go_sem,o3.1,o3.2.1,o3.2.2.1,o3.2.2.2.1,o3.2.2.2.2.1,o3.2.2.2.2.2]
    refine so 1 ?_;have hbd2:Below w2.heap.size w2 wd:=hwd ▸ hbd;have hzd:wd.heap.size=w2.heap.size:=(by rw[hwd]);have hlow:Below w.heap.size w wd:=HB2.out.trans (hbd2.mono (by omega));have hc1:=aN s 0 1 0 false v1 v2 v3 v4 v5 B wd (Hs.out.low hlow hB);rw[HNum.out]at hc1;refine aG ?_ hc1 ?_
    . simp[execOp,resolve,invoke,go_sem]
    rintro e w6 ⟨rfl,hb6⟩;refine⟨_,rfl,?_⟩;refine gS ?_ λhS=>?_
    . exact hS.trans (hb6.mono hS.size)
    refine ta 2 (.bool (!false)) hS λhS=>?_
    refine ta 3 (.bool (!false)) hS λhS=>?_
    refine sk 4 hS λhS=>?_
    refine sk 5 hS λhS=>?_
    refine sk 6 hS λhS=>?_
    refine sk 7 hS λhS=>?_
    refine sk 8 hS λhS=>?_
    refine ta 9 (.bool true) hS λhS=>?_
    refine ta 10 (.bool true) hS λhS=>?_
    refine sk 11 hS λhS=>?_
    refine sk 12 hS λhS=>?_
    refine sk 13 hS λhS=>?_
    refine sk 14 hS λhS=>?_
    refine sk 15 hS λhS=>?_
    refine sk 16 hS λhS=>?_
    refine sk 17 hS λhS=>?_
    refine sk 18 hS λhS=>?_
    refine ta 19 (.bool true) hS λhS=>?_
    refine dn ?_;have hlow6:Below w.heap.size w w6:=HB2.out.trans (hS.mono (by omega));have Hlow6:=Lh hlow6;have HS6:=Lh hS;clear hS hb6 hlow hlow6 hzd hbd2 hwd hbd;go_wp2_with fail;refine bodyPost_ret (v:=.tuple #[.slice none 0 0,.bool false]) (by simp[results,Try.results36,go_sem]) rfl ?_;rw[Hno.out];exact⟨Hlow6.out,_,rfl,λc h=>by cases h⟩
   | true=>
    have hl1:s.lits.length=1:=(by unfold aY at hnum;simp at hnum;exact hnum.1.1.2);obtain⟨i,hi⟩:=List.length_eq_one_iff.1 hl1;obtain⟨-,-,A2,c2,-,-,-,-,-,-,-,hv2,-⟩:=Hs.out.forms;have hli:=Hs.out.lits;rw[hv2]at hli;rw[hl1]at hv2 hli;unfold bM at hli;obtain⟨a2,o2,hA2,ha2,ho2⟩:=Rd.leaf_at (f:=λn=>.int .i64 n) hli (k:=0) (by omega);rw[hA2]at hv2;simp only[hi,List.getElem_cons_zero,Nat.add_zero]at ho2;have hli0:kA s 0=i:=(by unfold kA;rw[hi];rfl);have hlk0:li s 0=i.toNat:=(by unfold li;rw[hi];rfl);rw[hli0,hlk0]at hrm;have HNum:=Lh hnum;have V2:=Lh hv2;have Oi:=Lh ho2;have Hrm:=Lh hrm;clear hnum hl1 hi hv2 hli hA2 ho2 hrm hli0 hlk0;by_cases h8:i<0
    . have hno:cF inp ps s=none:=(by rw[Hrm.out,if_pos (.inr (.inl h8))]);have Hno:=Lh hno;clear hno;go_enter Try.func36,Try.ntmps36;go_upto_region 1 with fail
      obtain⟨hx1,hx2,hB2,hz2⟩:=aO w (.cells #[.slice Ai inp.length ci,.slice Ap ps.length cp] 66) (.cells #[.int .i64 s.rule,v1,v2,v3,v4,v5] 45);have hx1:aL w.heap.size 66 (.slice Ai inp.length ci) (.slice Ap ps.length cp) _:=hx1;have hx2:dH (w.heap.size+1) 45 (.int .i64 s.rule) v1 v2 v3 v4 v5 _:=hx2;generalize (w.alloc (.cells #[.slice Ai inp.length ci,.slice Ap ps.length cp] 66)).alloc (.cells #[.int .i64 s.rule,v1,v2,v3,v4,v5] 45)=w2 at hx1 hx2 hB2 hz2 ⊢;have HX1:=Lh hx1;have HX2:=Lh hx2;have HB2:=Lh hB2;obtain⟨y0,y1,-⟩:=hx1.cells;obtain⟨x0,x1,x2,x3,x4,x5⟩:=hx2.cells;clear hx1 hx2 hB2;have ha2w:a2<w2.heap.size:=(by omega);have Oi2:=Lh ((HB2.out.cell (p:=⟨a2,o2,none⟩) (show a2<w.heap.size by omega)).trans Oi.out);go_upto_region 2 with fail
      refine rg 20 (λ_ w'=>Below w2.heap.size w2 w') ?_;intro wd hwd hbd;refine⟨?_,λhS=>?_⟩
      . exact hwd ▸ hbd
      refine tk 0 (.agg #[.int .i64 s.rule,v1,v2,v3,v4,v5]) hS ?_ λhS=>?_
      . intro w' L hn hw;have o3:=(HX2.out.low hw).cells;simp[execOp,go_sem,o3.1,o3.2.1,o3.2.2.1,o3.2.2.2.1,o3.2.2.2.2.1,o3.2.2.2.2.2]
      refine so 1 ?_;have hbd2:Below w2.heap.size w2 wd:=hwd ▸ hbd;have hzd:wd.heap.size=w2.heap.size:=(by rw[hwd]);have hlow:Below w.heap.size w wd:=HB2.out.trans (hbd2.mono (by omega));have hc1:=aN s 0 1 0 false v1 v2 v3 v4 v5 B wd (Hs.out.low hlow hB);rw[HNum.out]at hc1;refine aG ?_ hc1 ?_
      . simp[execOp,resolve,invoke,go_sem]
      rintro e w6 ⟨rfl,hb6⟩;refine⟨_,rfl,?_⟩;refine gS ?_ λhS=>?_
      . exact hS.trans (hb6.mono hS.size)
      refine ta 2 (.bool (!true)) hS λhS=>?_
      refine ta 3 (.bool (!true)) hS λhS=>?_
      refine ta 4 (.pointer (some ⟨w.heap.size+1,2,none⟩)) hS λhS=>?_
      refine tk 5 (.slice (some ⟨a2,o2,none⟩) 1 c2) hS ?_ λhS=>?_
      . intro w' L hn hw;have o3:=(HX2.out.low hw).cells;simp[execOp,go_sem,o3.2.2.1,V2.out]
      refine ta 6 (.pointer (some ⟨a2,o2,none⟩)) hS λhS=>?_
      refine tk 7 (.int .i64 i) hS ?_ λhS=>?_
      . intro w' L hn hw;(have oi:=(hw.cell (p:=⟨a2,o2,none⟩) ha2w).trans Oi2.out)
        simp[execOp,go_sem,oi]
      refine tk 8 (.bool true) hS ?_ λhS=>?_
      . intros;simp[execOp,go_sem,h8]
      refine ta 9 (.bool true) hS λhS=>?_
      refine ta 10 (.bool true) hS λhS=>?_
      refine sk 11 hS λhS=>?_
      refine sk 12 hS λhS=>?_
      refine sk 13 hS λhS=>?_
      refine sk 14 hS λhS=>?_
      refine sk 15 hS λhS=>?_
      refine sk 16 hS λhS=>?_
      refine sk 17 hS λhS=>?_
      refine sk 18 hS λhS=>?_
      refine ta 19 (.bool true) hS λhS=>?_
      refine dn ?_;have hlow6:Below w.heap.size w w6:=HB2.out.trans (hS.mono (by omega));have Hlow6:=Lh hlow6;have HS6:=Lh hS;clear hS hb6 hlow hlow6 hzd hbd2 hwd hbd;go_wp2_with fail;refine bodyPost_ret (v:=.tuple #[.slice none 0 0,.bool false]) (by simp[results,Try.results36,go_sem]) rfl ?_;rw[Hno.out];exact⟨Hlow6.out,_,rfl,λc h=>by cases h⟩
    by_cases h17:(inp.length:Int)<=i
    . have hno:cF inp ps s=none:=(by rw[Hrm.out,if_pos (.inr (.inr h17))]);have Hno:=Lh hno;clear hno;go_enter Try.func36,Try.ntmps36;go_upto_region 1 with fail
      obtain⟨hx1,hx2,hB2,hz2⟩:=aO w (.cells #[.slice Ai inp.length ci,.slice Ap ps.length cp] 66) (.cells #[.int .i64 s.rule,v1,v2,v3,v4,v5] 45);have hx1:aL w.heap.size 66 (.slice Ai inp.length ci) (.slice Ap ps.length cp) _:=hx1;have hx2:dH (w.heap.size+1) 45 (.int .i64 s.rule) v1 v2 v3 v4 v5 _:=hx2;generalize (w.alloc (.cells #[.slice Ai inp.length ci,.slice Ap ps.length cp] 66)).alloc (.cells #[.int .i64 s.rule,v1,v2,v3,v4,v5] 45)=w2 at hx1 hx2 hB2 hz2 ⊢;have HX1:=Lh hx1;have HX2:=Lh hx2;have HB2:=Lh hB2;obtain⟨y0,y1,-⟩:=hx1.cells;obtain⟨x0,x1,x2,x3,x4,x5⟩:=hx2.cells;clear hx1 hx2 hB2;have ha2w:a2<w2.heap.size:=(by omega);have Oi2:=Lh ((HB2.out.cell (p:=⟨a2,o2,none⟩) (show a2<w.heap.size by omega)).trans Oi.out);go_upto_region 2 with fail
      refine rg 20 (λ_ w'=>Below w2.heap.size w2 w') ?_;intro wd hwd hbd;refine⟨?_,λhS=>?_⟩
      . exact hwd ▸ hbd
      refine tk 0 (.agg #[.int .i64 s.rule,v1,v2,v3,v4,v5]) hS ?_ λhS=>?_
      . intro w' L hn hw;have o3:=(HX2.out.low hw).cells;simp[execOp,go_sem,o3.1,o3.2.1,o3.2.2.1,o3.2.2.2.1,o3.2.2.2.2.1,o3.2.2.2.2.2]
      refine so 1 ?_;have hbd2:Below w2.heap.size w2 wd:=hwd ▸ hbd;have hzd:wd.heap.size=w2.heap.size:=(by rw[hwd]);have hlow:Below w.heap.size w wd:=HB2.out.trans (hbd2.mono (by omega));have hc1:=aN s 0 1 0 false v1 v2 v3 v4 v5 B wd (Hs.out.low hlow hB);rw[HNum.out]at hc1;refine aG ?_ hc1 ?_
      . simp[execOp,resolve,invoke,go_sem]
      rintro e w6 ⟨rfl,hb6⟩;refine⟨_,rfl,?_⟩;refine gS ?_ λhS=>?_
      . exact hS.trans (hb6.mono hS.size)
      refine ta 2 (.bool (!true)) hS λhS=>?_
      refine ta 3 (.bool (!true)) hS λhS=>?_
      refine ta 4 (.pointer (some ⟨w.heap.size+1,2,none⟩)) hS λhS=>?_
      refine tk 5 (.slice (some ⟨a2,o2,none⟩) 1 c2) hS ?_ λhS=>?_
      . intro w' L hn hw;have o3:=(HX2.out.low hw).cells;simp[execOp,go_sem,o3.2.2.1,V2.out]
      refine ta 6 (.pointer (some ⟨a2,o2,none⟩)) hS λhS=>?_
      refine tk 7 (.int .i64 i) hS ?_ λhS=>?_
      . intro w' L hn hw;(have oi:=(hw.cell (p:=⟨a2,o2,none⟩) ha2w).trans Oi2.out)
        simp[execOp,go_sem,oi]
      refine tk 8 (.bool false) hS ?_ λhS=>?_
      . intros;simp[execOp,go_sem,h8]
      refine ta 9 (.bool false) hS λhS=>?_
      refine ta 10 (.bool false) hS λhS=>?_
      refine ta 11 (.pointer (some ⟨w.heap.size+1,2,none⟩)) hS λhS=>?_
      refine tk 12 (.slice (some ⟨a2,o2,none⟩) 1 c2) hS ?_ λhS=>?_
      . intro w' L hn hw;have o3:=(HX2.out.low hw).cells;simp[execOp,go_sem,o3.2.2.1,V2.out]
      refine ta 13 (.pointer (some ⟨a2,o2,none⟩)) hS λhS=>?_
      refine tk 14 (.int .i64 i) hS ?_ λhS=>?_
      . intro w' L hn hw;(have oi:=(hw.cell (p:=⟨a2,o2,none⟩) ha2w).trans Oi2.out)
        simp[execOp,go_sem,oi]
      refine ta 15 (.pointer (some ⟨w.heap.size,0,none⟩)) hS λhS=>?_
      refine tk 16 (.slice Ai inp.length ci) hS ?_ λhS=>?_
      . intro w' L hn hw;have m2:=(HX1.out.low hw).cells;simp[execOp,go_sem,m2.1]
      refine ta 17 (.int .i64 (inp.length:Nat)) hS λhS=>?_
      refine tk 18 (.bool true) hS ?_ λhS=>?_
      . intros;simp[execOp,go_sem,h17]
      refine ta 19 (.bool true) hS λhS=>?_
      refine dn ?_;have hlow6:Below w.heap.size w w6:=HB2.out.trans (hS.mono (by omega));have Hlow6:=Lh hlow6;have HS6:=Lh hS;clear hS hb6 hlow hlow6 hzd hbd2 hwd hbd;go_wp2_with fail;refine bodyPost_ret (v:=.tuple #[.slice none 0 0,.bool false]) (by simp[results,Try.results36,go_sem]) rfl ?_;rw[Hno.out];exact⟨Hlow6.out,_,rfl,λc h=>by cases h⟩
    obtain⟨iN,rfl⟩:∃n:Nat,i=(n:Int):=⟨i.toNat,by omega⟩;have hiN:iN<inp.length:=(by omega);have hyes:cF inp ps s=some inp[iN]:=(by rw[Hrm.out,if_neg (by rintro(h | h | h);exact absurd (HNum.out.symm.trans h) (by decide);omega;omega),Int.toNat_natCast,List.getElem?_eq_getElem hiN]);have Hyes:=Lh hyes;obtain⟨bi,ob,A6,c6,hAi,hbi,d0,hcc⟩:=Hi.out.cl_at hiN;have HAi:=Lh hAi;clear hyes hAi;go_enter Try.func36,Try.ntmps36;go_upto_region 1 with fail
    obtain⟨hx1,hx2,hB2,hz2⟩:=aO w (.cells #[.slice Ai inp.length ci,.slice Ap ps.length cp] 66) (.cells #[.int .i64 s.rule,v1,v2,v3,v4,v5] 45);have hx1:aL w.heap.size 66 (.slice Ai inp.length ci) (.slice Ap ps.length cp) _:=hx1;have hx2:dH (w.heap.size+1) 45 (.int .i64 s.rule) v1 v2 v3 v4 v5 _:=hx2;generalize (w.alloc (.cells #[.slice Ai inp.length ci,.slice Ap ps.length cp] 66)).alloc (.cells #[.int .i64 s.rule,v1,v2,v3,v4,v5] 45)=w2 at hx1 hx2 hB2 hz2 ⊢;have HX1:=Lh hx1;have HX2:=Lh hx2;have HB2:=Lh hB2;obtain⟨y0,y1,-⟩:=hx1.cells;obtain⟨x0,x1,x2,x3,x4,x5⟩:=hx2.cells;clear hx1 hx2 hB2;have ha2w:a2<w2.heap.size:=(by omega);have Oi2:=Lh ((HB2.out.cell (p:=⟨a2,o2,none⟩) (show a2<w.heap.size by omega)).trans Oi.out);have D0:=Lh ((HB2.out.cell (p:=⟨bi,ob+iN,none⟩) (show bi<w.heap.size by omega)).trans d0);have Hcc:=Lh hcc;clear d0 hcc;go_upto_region 2 with fail
    refine rg 20 (λ_ w'=>Below w2.heap.size w2 w') ?_;intro wd hwd hbd;refine⟨?_,λhS=>?_⟩
    . exact hwd ▸ hbd
    refine tk 0 (.agg #[.int .i64 s.rule,v1,v2,v3,v4,v5]) hS ?_ λhS=>?_
    . intro w' L hn hw;have o3:=(HX2.out.low hw).cells;simp[execOp,go_sem,o3.1,o3.2.1,o3.2.2.1,o3.2.2.2.1,o3.2.2.2.2.1,o3.2.2.2.2.2]
    refine so 1 ?_;have hbd2:Below w2.heap.size w2 wd:=hwd ▸ hbd;have hzd:wd.heap.size=w2.heap.size:=(by rw[hwd]);have hlow:Below w.heap.size w wd:=HB2.out.trans (hbd2.mono (by omega));have hc1:=aN s 0 1 0 false v1 v2 v3 v4 v5 B wd (Hs.out.low hlow hB);rw[HNum.out]at hc1;refine aG ?_ hc1 ?_
    . simp[execOp,resolve,invoke,go_sem]
    rintro e w6 ⟨rfl,hb6⟩;refine⟨_,rfl,?_⟩;refine gS ?_ λhS=>?_
    . exact hS.trans (hb6.mono hS.size)
    refine ta 2 (.bool (!true)) hS λhS=>?_
    refine ta 3 (.bool (!true)) hS λhS=>?_
    refine ta 4 (.pointer (some ⟨w.heap.size+1,2,none⟩)) hS λhS=>?_
    refine tk 5 (.slice (some ⟨a2,o2,none⟩) 1 c2) hS ?_ λhS=>?_
    . intro w' L hn hw;have o3:=(HX2.out.low hw).cells;simp[execOp,go_sem,o3.2.2.1,V2.out]
    refine ta 6 (.pointer (some ⟨a2,o2,none⟩)) hS λhS=>?_
    refine tk 7 (.int .i64 (iN:Nat)) hS ?_ λhS=>?_
    . intro w' L hn hw;(have oi:=(hw.cell (p:=⟨a2,o2,none⟩) ha2w).trans Oi2.out)
      simp[execOp,go_sem,oi]
    refine tk 8 (.bool false) hS ?_ λhS=>?_
    . intros;simp[execOp,go_sem,h8]
    refine ta 9 (.bool false) hS λhS=>?_
    refine ta 10 (.bool false) hS λhS=>?_
    refine ta 11 (.pointer (some ⟨w.heap.size+1,2,none⟩)) hS λhS=>?_
    refine tk 12 (.slice (some ⟨a2,o2,none⟩) 1 c2) hS ?_ λhS=>?_
    . intro w' L hn hw;have o3:=(HX2.out.low hw).cells;simp[execOp,go_sem,o3.2.2.1,V2.out]
    refine ta 13 (.pointer (some ⟨a2,o2,none⟩)) hS λhS=>?_
    refine tk 14 (.int .i64 (iN:Nat)) hS ?_ λhS=>?_
    . intro w' L hn hw;(have oi:=(hw.cell (p:=⟨a2,o2,none⟩) ha2w).trans Oi2.out)
      simp[execOp,go_sem,oi]
    refine ta 15 (.pointer (some ⟨w.heap.size,0,none⟩)) hS λhS=>?_
    refine tk 16 (.slice Ai inp.length ci) hS ?_ λhS=>?_
    . intro w' L hn hw;have m2:=(HX1.out.low hw).cells;simp[execOp,go_sem,m2.1]
    refine ta 17 (.int .i64 (inp.length:Nat)) hS λhS=>?_
    refine tk 18 (.bool false) hS ?_ λhS=>?_
    . intros;simp[execOp,go_sem,h17]
    refine ta 19 (.bool false) hS λhS=>?_
    refine dn ?_;have hlow6:Below w.heap.size w w6:=HB2.out.trans (hS.mono (by omega));have Hlow6:=Lh hlow6;have HS6:=Lh hS;clear hS hb6 hlow hlow6 hzd hbd2 hwd hbd;have hz6:=HS6.out.size;go_upto_region 4 with fail
    refine rg 10 (λ_ w'=>Below w6.heap.size w6 w') ?_;intro wd hwd hbd;refine⟨?_,λhS=>?_⟩
    . exact hwd ▸ hbd
    refine ta 0 (.pointer (some ⟨w.heap.size,0,none⟩)) hS λhS=>?_
    refine tk 1 (.slice (some ⟨bi,ob,none⟩) inp.length ci) hS ?_ λhS=>?_
    . intro w' L hn hw;have hww:Below w2.heap.size w2 w':=HS6.out.trans (hw.mono (by omega));have m2:=(HX1.out.low hww).cells;simp[execOp,go_sem,m2.1,HAi.out]
    refine ta 2 (.pointer (some ⟨w.heap.size+1,2,none⟩)) hS λhS=>?_
    refine tk 3 (.slice (some ⟨a2,o2,none⟩) 1 c2) hS ?_ λhS=>?_
    . intro w' L hn hw;have hww:Below w2.heap.size w2 w':=HS6.out.trans (hw.mono (by omega));have o3:=(HX2.out.low hww).cells;simp[execOp,go_sem,o3.2.2.1,V2.out]
    refine ta 4 (.pointer (some ⟨a2,o2,none⟩)) hS λhS=>?_
    refine tk 5 (.int .i64 (iN:Nat)) hS ?_ λhS=>?_
    . intro w' L hn hw;have hww:Below w2.heap.size w2 w':=HS6.out.trans (hw.mono (by omega));have oi:=(hww.cell (p:=⟨a2,o2,none⟩) ha2w).trans Oi2.out;simp[execOp,go_sem,oi]
    refine tk 6 (.pointer (some ⟨bi,ob+iN,none⟩)) hS ?_ λhS=>?_
    . intros;simp[execOp,go_sem,hiN]
    refine tk 7 (.slice A6 inp[iN].length c6) hS ?_ λhS=>?_
    . intro w' L hn hw;have hww:Below w2.heap.size w2 w':=HS6.out.trans (hw.mono (by omega));have od:=(hww.cell (p:=⟨bi,ob+iN,none⟩) (show bi<w2.heap.size by omega)).trans D0.out;simp[execOp,go_sem,od]
    refine ta 8 (.slice A6 inp[iN].length c6) hS λhS=>?_
    refine ta 9 (.bool true) hS λhS=>?_
    refine dn ?_;have hlow7:Below w.heap.size w _:=Hlow6.out.trans (hS.mono (by have:=Hlow6.out.size;omega));go_wp2_with fail;refine bodyPost_ret (v:=.tuple #[.slice A6 inp[iN].length c6,.bool true]) (by simp[results,Try.results36,go_sem]) rfl ?_;rw[Hyes.out];refine⟨hlow7,_,rfl,λc h=>?_⟩;obtain rfl:=Option.some.inj h;exact(Hcc.out.low hlow7 hB).more (by have:=hlow7.size;omega)
 have hq1:(s.rule==1)=false:=by simp[hr1]
 go_enter Try.func36,Try.ntmps36;go_upto_region 1 with fail
 obtain⟨hx1,hx2,hB2,hz2⟩:=aO w (.cells #[.slice Ai inp.length ci,.slice Ap ps.length cp] 66) (.cells #[.int .i64 s.rule,v1,v2,v3,v4,v5] 45);have hx1:aL w.heap.size 66 (.slice Ai inp.length ci) (.slice Ap ps.length cp) _:=hx1;have hx2:dH (w.heap.size+1) 45 (.int .i64 s.rule) v1 v2 v3 v4 v5 _:=hx2;generalize (w.alloc (.cells #[.slice Ai inp.length ci,.slice Ap ps.length cp] 66)).alloc (.cells #[.int .i64 s.rule,v1,v2,v3,v4,v5] 45)=w2 at hx1 hx2 hB2 hz2 ⊢;have HX1:=Lh hx1;have HX2:=Lh hx2;have HB2:=Lh hB2;obtain⟨y0,y1,-⟩:=hx1.cells;obtain⟨x0,x1,x2,x3,x4,x5⟩:=hx2.cells;clear hx1 hx2 hB2;obtain⟨A1,n1,A2,n2,A3,n3,A4,n4,A5,n5,rfl,rfl,rfl,rfl,rfl,hn1,-⟩:=Hs.out.forms;go_upto_region 7 with fail
 clear x0 x1 x2 x3 x4 x5 y0 y1;go_loopw [6,43] (λu i wr=>∃k:Nat,k<=s.parents.length/\i=.int .i64 k/\bC wr (λb=>b<B) w2.heap.size 38 1 u (((jE ps s).take k).map λc=>[aT c])/\Below w2.heap.size w2 wr) (λ_ i _=>s.parents.length-(intOf i).toNat)
 case atStart=>exact⟨0,Nat.zero_le _,rfl,bC.nil _ _ _ _ _,Below.refl _ _⟩
 obtain⟨k,hk,rfl,hown,hup⟩:=hrel;have hzr:=hup.size;have hur:=hown.lt;have Hown:=Lh hown;have Hup:=Lh hup;clear hown hup;by_cases hlt:k<s.parents.length
 . have hbw:Below w.heap.size w wr:=HB2.out.trans (Hup.out.mono (by omega));obtain⟨q,hq⟩:∃q,s.parents[k]=q:=⟨_,rfl⟩;obtain⟨hq0,hq1⟩:=hpar q (by rw[<-hq];exact List.getElem_mem hlt);obtain⟨n,rfl⟩:∃n:Nat,q=(n:Int):=⟨q.toNat,by omega⟩;have hnp:n<ps.length:=by omega
   have hpr:=(Hs.out.low hbw hB).parents;unfold bM at hpr;obtain⟨pb,po,rfl,hpb,p0⟩:=Rd.leaf_at (f:=λn=>.int .i64 n) hpr hlt;simp only[hq]at p0;obtain⟨sb,sO,u1,u2,u3,u4,u5,rfl,hsb,-,-,-,-,-,p5,hsn⟩:=(Hp.out.low hbw hB).sp_at hnp;obtain⟨-,-,-,-,-,-,-,-,A6,c6,-,-,-,-,rfl,-⟩:=hsn.forms;have hcl:=hsn.clause;have Hcl:=Lh hcl;have Hbw:=Lh hbw;have Hq:=Lh hq;obtain⟨y0,y1,-⟩:=(HX1.out.low Hup.out).cells;have hnn:¬((ps.length:Int)<=(n:Int)):=by omega
   clear hpr hsn hcl hbw hq;have hlk:((((jE ps s).take k).map λc=>[aT c])).length=k:=by unfold jE;simp;omega
   have Hlk:=Lh hlk;clear hlk;go_wp2_with (
    at_builtin
    go_loud (refine cK _ rfl (.tmp 47) (.tmp 54) _ rfl aQ0 (M:=λb=>b<B) (base:=w2.heap.size) (v:=u6) (trs:=((jE ps s).take k).map λc=>[aT c]) rfl (by exact Hown.out.low (aD wr _)) (g:=wr.heap.size) rfl (heap_alloc_new wr _) rfl (by simp[Value.oneCell']) (by rw[Hlk.out];omega) (by rw[Hlk.out];unfold maxLen;omega) (by simp;omega) [aT ps[n].clause] rfl ?_ ?_)
    . intro j h h';have hj2:j<1:=h';rcases(by omega:j=0)with rfl
      exact((Hcl.out.low (aD wr _) (by have:=Hbw.out.size;omega)).rdP (by simp;omega)).more λb hb _=>⟨.inl hb,λe=>by have:=(hur _ e).1;omega⟩
    intro u7 w7 hown7 hup7 _;have Hown7:=Lh hown7;have Hup7:=Lh hup7;clear hown7 hup7)
   go_roundw
   case rel=>
    have hsn:((jE ps s).take (k+1)).map (λc=>[aT c])=((jE ps s).take k).map (λc=>[aT c])++[[aT ps[n].clause]]:=by
     have hkp:k<(jE ps s).length:=(by unfold jE;rw[List.length_map];exact hlt);rw[List.take_succ_eq_append_getElem hkp,List.map_append];have:(jE ps s)[k]=ps[n].clause:=by
      have hg:(jE ps s)[k]? =some ps[n].clause:=by
       unfold jE;simp only[List.getElem?_map,List.getElem?_eq_getElem hlt,Hq.out,Option.map_some,Int.toNat_natCast,List.getElem?_eq_getElem hnp,Option.getD_some]
      rw[List.getElem?_eq_getElem hkp]at hg;exact Option.some.inj hg
     rw[this];rfl
    exact⟨k+1,by omega,by go_num,by rw[hsn];exact Hown7.out,Hup.out.trans ((aD wr _).mono hzr |>.trans (Hup7.out.toLow (by simp;omega) (λj e=>(hur _ e).1)))⟩
   case measure=>simp[intOf];omega
 obtain rfl:k=s.parents.length:=by omega
 have hln:(jE ps s).length=s.parents.length:=by unfold jE;rw[List.length_map]
 have hown:=Hown.out;rw[List.take_of_length_le (Nat.le_of_eq hln)]at hown;obtain⟨l,hl⟩:∃l,jE ps s=l:=⟨_,rfl⟩;have hmk:cF inp ps s=if l.any (λc=> !eK c)=true then none else if s.rule=2\/s.rule=3\/s.rule=6\/s.rule=7 then qM s l else if s.rule=4\/s.rule=5 then qN s l else if s.rule=8 then mU s l else none:=by
  unfold cF;rw[if_neg hr1,hl];rfl
 have hmem:∀x∈l,∃q∈ps,x=q.clause:=λx hx=>by
  rw[<-hl]at hx;unfold jE at hx;obtain⟨n,hn,rfl⟩:=List.mem_map.1 hx;obtain⟨h0,h1⟩:=hpar n hn;have h2:n.toNat<ps.length:=by omega
  rw[List.getElem?_eq_getElem h2];exact⟨_,List.getElem_mem h2,rfl⟩
 rw[hl]at hown hln;have hrd:=(hown.rd (by rw[List.length_map,hln];omega)).rd';obtain⟨Au,cu,hu,-,-⟩:=hown.form;rw[List.length_map]at hu;subst hu;have hlow:Below w.heap.size w wr:=HB2.out.trans (Hup.out.mono (by omega));have hcf:=sF l _ wr.heap.size wr hrd (λx hx=>by obtain⟨q,hq,rfl⟩:=hmem x hx;exact hzs q hq) (Nat.le_refl _);have hany:((List.range l.length).any λk=> !eK (l[k]?.getD []))=l.any λc=> !eK c:=sQ l (λc=> !eK c) []
 rw[hany]at hcf;have hfr:l.any (λc=> !eK c)=false->∀x∈l,FairC x:=λh x hx=>by
  obtain⟨q,hq,rfl⟩:=hmem x hx;refine qA (hrng q hq) ?_;have:=List.any_eq_false.1 h _ hx;simpa using this
 obtain⟨y0,y1,y2,y3,y4,y5⟩:=(HX2.out.low Hup.out).cells;have Hln:=Lh hln;have Hrd:=Lh hrd;have Hlow:=Lh hlow;have Hcf:=Lh hcf;have Hfr:=Lh hfr;have Hmk:=Lh hmk;clear hown hl hmk hmem hln hrd hlow hcf hany hfr hlt hrng hpar;obtain⟨ba,hba⟩:∃b,l.any (λc=> !eK c)=b:=⟨_,rfl⟩;rw[hba]at Hcf Hmk Hfr;clear hba;cases ba with
 | true=>
  go_wp2_with (
   go_at_call 47
   refine Hcf.out.mono ?_;rintro e w4 ⟨rfl,hb4⟩;have Hb4:=Lh hb4;clear hb4)
  have hno:cF inp ps s=none:=by rw[Hmk.out];rfl
  refine bodyPost_ret (v:=.tuple #[.slice none 0 0,.bool false]) (by simp[results,Try.results36,go_sem]) rfl ?_;rw[hno];exact⟨Hlow.out.trans (Hb4.out.mono (by have:=Hlow.out.size;omega)),_,rfl,λc h=>by cases h⟩
 | false=>
  have hmk:=Hmk.out;rw[if_neg (by decide)]at hmk;have hfr:=Hfr.out rfl;have Hmk:=Lh hmk;have Hfr:=Lh hfr;clear hmk hfr;by_cases hru:s.rule=2\/s.rule=3\/s.rule=6\/s.rule=7
  . have hmk:=Hmk.out;rw[if_pos hru]at hmk;have Hmk:=Lh hmk;have Hru:=Lh hru;clear hmk;rcases hru with h | h | h | h
    all_goals
     first | (have t2:(s.rule==2)=true:=(by rw[h];rfl)) | (have t2:(s.rule==2)=false:=(by rw[h];rfl))
     first | (have t3:(s.rule==3)=true:=(by rw[h];rfl)) | (have t3:(s.rule==3)=false:=(by rw[h];rfl))
     first | (have t4:(s.rule==4)=true:=(by rw[h];rfl)) | (have t4:(s.rule==4)=false:=(by rw[h];rfl))
     first | (have t5:(s.rule==5)=true:=(by rw[h];rfl)) | (have t5:(s.rule==5)=false:=(by rw[h];rfl))
     first | (have t6:(s.rule==6)=true:=(by rw[h];rfl)) | (have t6:(s.rule==6)=false:=(by rw[h];rfl))
     first | (have t7:(s.rule==7)=true:=(by rw[h];rfl)) | (have t7:(s.rule==7)=false:=(by rw[h];rfl))
     first | (have t8:(s.rule==8)=true:=(by rw[h];rfl)) | (have t8:(s.rule==8)=false:=(by rw[h];rfl))
     by_cases hl1:l.length=1
     . obtain⟨c,rfl⟩:=List.length_eq_one_iff.1 hl1;have hmk:=Hmk.out;have hmk:cF inp ps s=bA s c:=hmk;have Hmk:=Lh hmk;have hfc:=Hfr.out c (List.mem_singleton.2 rfl);have hsa:=fun(vc:Value) (w':World) (hb:Below w.heap.size w w') (hc:Rd w' wr.heap.size (aT c) vc) (hz:wr.heap.size<=w'.heap.size)=>zB s c _ _ _ _ _ vc wr.heap.size w' Hru.out ((Hs.out.low hb hB).more (by have:=Hlow.out.size;omega)) hc hz hfc
       have Hsa:=Lh hsa;obtain⟨bl,ol,A6,c6,rfl,hbl,d0,hcc⟩:=Hrd.out.cl_at (k:=0) (by simp);simp only[List.getElem_cons_zero,Nat.add_zero]at d0 hcc;have hzw:=Hlow.out.size;have D0:=Lh d0;have Hcc:=Lh hcc;clear hmk hfc hsa d0 hcc hl1 h;go_upto_region 19 with(
        go_at_call 47
        refine Hcf.out.mono ?_;rintro e w4 ⟨rfl,hb4⟩;have y0:=(hb4.cell (p:=⟨w.heap.size+1,0,none⟩) (show w.heap.size+1<wr.heap.size by omega)).trans y0;have Hb4:=Lh hb4;clear hb4)
       obtain⟨r,hr⟩:∃r,bA s c=r:=⟨_,rfl⟩;have Hr:=Lh hr;have hz4:=Hb4.out.size;clear hr y0 y1 y2 y3 y4 y5;refine rg 9 (λ_ w'=>Below w4.heap.size w4 w') ?_;intro wd hwd hbd;refine⟨?_,λhS=>?_⟩
       . exact hwd ▸ hbd
       refine tk 0 (.agg #[.int .i64 s.rule,.slice A1 s.parents.length n1,.slice A2 s.lits.length n2,.slice A3 s.right.length n3,.slice A4 s.pos.length n4,.slice A5 s.clause.length n5]) hS ?_ λhS=>?_
       . intro w' L hn hw;have hww:Below wr.heap.size wr w':=Hb4.out.trans (hw.mono (by omega));have o3:=((HX2.out.low Hup.out).low hww).cells;simp[execOp,go_sem,o3.1,o3.2.1,o3.2.2.1,o3.2.2.2.1,o3.2.2.2.2.1,o3.2.2.2.2.2]
       refine ta 1 (.slice (some ⟨bl,ol,none⟩) 1 cu) hS λhS=>?_
       refine ta 2 (.pointer (some ⟨bl,ol,none⟩)) hS λhS=>?_
       refine tk 3 (.slice A6 c.length c6) hS ?_ λhS=>?_
       . intro w' L hn hw;have hww:Below wr.heap.size wr w':=Hb4.out.trans (hw.mono (by omega));have o6:=(hww.cell (p:=⟨bl,ol,none⟩) (show bl<wr.heap.size by omega)).trans D0.out;simp[execOp,go_sem,o6]
       refine so 4 ?_;have hbd4:Below w4.heap.size w4 wd:=hwd ▸ hbd;have hzd:wd.heap.size=w4.heap.size:=(by rw[hwd]);have hc1:=Hsa.out _ wd (Hlow.out.trans ((Hb4.out.trans (hbd4.mono (by omega))).mono (by omega))) (Hcc.out.low (Hb4.out.trans (hbd4.mono (by omega))) (Nat.le_refl _)) (by omega);rw[Hr.out]at hc1;refine aG ?_ hc1 ?_
       . simp[execOp,resolve,invoke,go_sem]
       rintro e w6 ⟨hb6,v6,rfl,hr6⟩;refine⟨_,rfl,?_⟩;refine gS ?_ λhS=>?_
       . exact hS.trans (hb6.mono hS.size)
       refine ta 5 (v6) hS λhS=>?_
       refine ta 6 (.bool r.isSome) hS λhS=>?_
       refine ta 7 (v6) hS λhS=>?_
       refine ta 8 (.bool r.isSome) hS λhS=>?_
       refine dn ?_;have Hlow6:=Lh (Hlow.out.trans ((Hb4.out.trans (hS.mono (by omega))).mono hzw));have Hr6:=Lh hr6;clear hS hwd hbd hb6 hc1 hbd4 hzd hr6;go_wp2_with fail;refine bodyPost_ret (v:=.tuple #[v6,.bool r.isSome]) (by simp[results,Try.results36,go_sem]) rfl ?_;rw[Hmk.out,Hr.out];exact⟨Hlow6.out,v6,rfl,Hr6.out⟩
     have hno:cF inp ps s=none:=by
      rw[Hmk.out];match l,hl1 with
      | [],_=>rfl
      | [_],h=>exact absurd rfl h
      | _::_::_,_=>rfl
     have hl2:¬((l.length:Int)=1):=(by omega);clear h;go_wp2_with (
      go_at_call 47
      refine Hcf.out.mono ?_;rintro e w4 ⟨rfl,hb4⟩;have y0:=(hb4.cell (p:=⟨w.heap.size+1,0,none⟩) (show w.heap.size+1<wr.heap.size by omega)).trans y0;have Hb4:=Lh hb4;clear hb4)
     refine bodyPost_ret (v:=.tuple #[.slice none 0 0,.bool false]) (by simp[results,Try.results36,go_sem]) rfl ?_;rw[hno];exact⟨Hlow.out.trans (Hb4.out.mono (by have:=Hlow.out.size;omega)),_,rfl,λc h=>by cases h⟩
  have hmk:=Hmk.out;rw[if_neg hru]at hmk;by_cases hru2:s.rule=4\/s.rule=5
  . rw[if_pos hru2]at hmk;have Hmk:=Lh hmk;clear hmk hru;rcases hru2 with h | h
    all_goals
     first | (have t2:(s.rule==2)=true:=(by rw[h];rfl)) | (have t2:(s.rule==2)=false:=(by rw[h];rfl))
     first | (have t3:(s.rule==3)=true:=(by rw[h];rfl)) | (have t3:(s.rule==3)=false:=(by rw[h];rfl))
     first | (have t4:(s.rule==4)=true:=(by rw[h];rfl)) | (have t4:(s.rule==4)=false:=(by rw[h];rfl))
     first | (have t5:(s.rule==5)=true:=(by rw[h];rfl)) | (have t5:(s.rule==5)=false:=(by rw[h];rfl))
     first | (have t6:(s.rule==6)=true:=(by rw[h];rfl)) | (have t6:(s.rule==6)=false:=(by rw[h];rfl))
     first | (have t7:(s.rule==7)=true:=(by rw[h];rfl)) | (have t7:(s.rule==7)=false:=(by rw[h];rfl))
     first | (have t8:(s.rule==8)=true:=(by rw[h];rfl)) | (have t8:(s.rule==8)=false:=(by rw[h];rfl))
     by_cases hl1:l.length=2
     . obtain⟨c,d,rfl⟩:=aA0 hl1;have hmk:=Hmk.out;have hmk:cF inp ps s=dR s c d:=hmk;have Hmk:=Lh hmk;have hfc:=Hfr.out c (by simp);have hfd:=Hfr.out d (by simp);have hlc:=hfc.len;have hld:=hfd.len;have hsa:=fun(vc vd:Value) (w':World) (hb:Below w.heap.size w w') (hc:Rd w' wr.heap.size (aT c) vc) (hd:Rd w' wr.heap.size (aT d) vd) (hz:wr.heap.size<=w'.heap.size)=>aH2 s c d _ _ _ _ _ vc vd wr.heap.size w' ((Hs.out.low hb hB).more (by have:=Hlow.out.size;omega)) hc hd hz (by omega) (by omega) hfc.sz hfd.szm hfc.zc hfd.zc hfd.zm hfd.low hfc.pat
       have Hsa:=Lh hsa;have hrd1:=Hrd.out;obtain⟨bl,ol,A6,c6,rfl,hbl,d0,hcc⟩:=hrd1.cl_at (k:=0) (by simp);obtain⟨bl',ol',A7,c7,hbe,-,d1,hdd⟩:=hrd1.cl_at (k:=1) (by simp);cases hbe;simp only[List.getElem_cons_zero,List.getElem_cons_succ,Nat.add_zero]at d0 hcc d1 hdd;have hzw:=Hlow.out.size;have D0:=Lh d0;have Hcc:=Lh hcc;have D1:=Lh d1;have Hdd:=Lh hdd;clear hmk hfc hfd hlc hld hsa d0 hcc d1 hdd hl1 hrd1 h;go_upto_region 23 with(
        go_at_call 47
        refine Hcf.out.mono ?_;rintro e w4 ⟨rfl,hb4⟩;have y0:=(hb4.cell (p:=⟨w.heap.size+1,0,none⟩) (show w.heap.size+1<wr.heap.size by omega)).trans y0;have Hb4:=Lh hb4;clear hb4)
       obtain⟨r,hr⟩:∃r,dR s c d=r:=⟨_,rfl⟩;have Hr:=Lh hr;have hz4:=Hb4.out.size;clear hr y0 y1 y2 y3 y4 y5;refine rg 12 (λ_ w'=>Below w4.heap.size w4 w') ?_;intro wd hwd hbd;refine⟨?_,λhS=>?_⟩
       . exact hwd ▸ hbd
       refine tk 0 (.agg #[.int .i64 s.rule,.slice A1 s.parents.length n1,.slice A2 s.lits.length n2,.slice A3 s.right.length n3,.slice A4 s.pos.length n4,.slice A5 s.clause.length n5]) hS ?_ λhS=>?_
       . intro w' L hn hw;have hww:Below wr.heap.size wr w':=Hb4.out.trans (hw.mono (by omega));have o3:=((HX2.out.low Hup.out).low hww).cells;simp[execOp,go_sem,o3.1,o3.2.1,o3.2.2.1,o3.2.2.2.1,o3.2.2.2.2.1,o3.2.2.2.2.2]
       refine ta 1 (.slice (some ⟨bl,ol,none⟩) 2 cu) hS λhS=>?_
       refine ta 2 (.pointer (some ⟨bl,ol,none⟩)) hS λhS=>?_
       refine tk 3 (.slice A6 c.length c6) hS ?_ λhS=>?_
       . intro w' L hn hw;have hww:Below wr.heap.size wr w':=Hb4.out.trans (hw.mono (by omega));have o6:=(hww.cell (p:=⟨bl,ol,none⟩) (show bl<wr.heap.size by omega)).trans D0.out;simp[execOp,go_sem,o6]
       refine ta 4 (.slice (some ⟨bl,ol,none⟩) 2 cu) hS λhS=>?_
       refine ta 5 (.pointer (some ⟨bl,ol+1,none⟩)) hS λhS=>?_
       refine tk 6 (.slice A7 d.length c7) hS ?_ λhS=>?_
       . intro w' L hn hw;have hww:Below wr.heap.size wr w':=Hb4.out.trans (hw.mono (by omega));have o7:=(hww.cell (p:=⟨bl,ol+1,none⟩) (show bl<wr.heap.size by omega)).trans D1.out;simp[execOp,go_sem,o7]
       refine so 7 ?_;have hbd4:Below w4.heap.size w4 wd:=hwd ▸ hbd;have hzd:wd.heap.size=w4.heap.size:=(by rw[hwd]);have hc1:=Hsa.out _ _ wd (Hlow.out.trans ((Hb4.out.trans (hbd4.mono (by omega))).mono (by omega))) (Hcc.out.low (Hb4.out.trans (hbd4.mono (by omega))) (Nat.le_refl _)) (Hdd.out.low (Hb4.out.trans (hbd4.mono (by omega))) (Nat.le_refl _)) (by omega);rw[Hr.out]at hc1;refine aG ?_ hc1 ?_
       . simp[execOp,resolve,invoke,go_sem]
       rintro e w6 ⟨hb6,v6,rfl,hr6⟩;refine⟨_,rfl,?_⟩;refine gS ?_ λhS=>?_
       . exact hS.trans (hb6.mono hS.size)
       refine ta 8 (v6) hS λhS=>?_
       refine ta 9 (.bool r.isSome) hS λhS=>?_
       refine ta 10 (v6) hS λhS=>?_
       refine ta 11 (.bool r.isSome) hS λhS=>?_
       refine dn ?_;have Hlow6:=Lh (Hlow.out.trans ((Hb4.out.trans (hS.mono (by omega))).mono hzw));have Hr6:=Lh hr6;clear hS hwd hbd hb6 hc1 hbd4 hzd hr6;go_wp2_with fail;refine bodyPost_ret (v:=.tuple #[v6,.bool r.isSome]) (by simp[results,Try.results36,go_sem]) rfl ?_;rw[Hmk.out,Hr.out];exact⟨Hlow6.out,v6,rfl,Hr6.out⟩
     have hno:cF inp ps s=none:=by
      rw[Hmk.out];match l,hl1 with
      | [],_=>rfl
      | [_],_=>rfl
      | [_,_],h=>exact absurd rfl h
      | _::_::_::_,_=>rfl
     have hl2:¬((l.length:Int)=2):=(by omega);clear h;go_wp2_with (
      go_at_call 47
      refine Hcf.out.mono ?_;rintro e w4 ⟨rfl,hb4⟩;have y0:=(hb4.cell (p:=⟨w.heap.size+1,0,none⟩) (show w.heap.size+1<wr.heap.size by omega)).trans y0;have Hb4:=Lh hb4;clear hb4)
     refine bodyPost_ret (v:=.tuple #[.slice none 0 0,.bool false]) (by simp[results,Try.results36,go_sem]) rfl ?_;rw[hno];exact⟨Hlow.out.trans (Hb4.out.mono (by have:=Hlow.out.size;omega)),_,rfl,λc h=>by cases h⟩
  rw[if_neg hru2]at hmk;by_cases hru3:s.rule=8
  . rw[if_pos hru3]at hmk;have Hmk:=Lh hmk;have h:=hru3;clear hmk hru hru2 hru3;have t2:(s.rule==2)=false:=(by rw[h];rfl);have t3:(s.rule==3)=false:=(by rw[h];rfl);have t4:(s.rule==4)=false:=(by rw[h];rfl);have t5:(s.rule==5)=false:=(by rw[h];rfl);have t6:(s.rule==6)=false:=(by rw[h];rfl);have t7:(s.rule==7)=false:=(by rw[h];rfl);have t8:(s.rule==8)=true:=(by rw[h];rfl);by_cases hl1:l.length=2
    . obtain⟨c,d,rfl⟩:=aA0 hl1;have hmk:=Hmk.out;have hmk:cF inp ps s=iK s c d:=hmk;have Hmk:=Lh hmk;have hfc:=Hfr.out c (by simp);have hfd:=Hfr.out d (by simp);have hlc:=hfc.len;have hld:=hfd.len;have hsa:=fun(vc vd:Value) (w':World) (hb:Below w.heap.size w w') (hc:Rd w' wr.heap.size (aT c) vc) (hd:Rd w' wr.heap.size (aT d) vd) (hz:wr.heap.size<=w'.heap.size)=>aL0 s c d _ _ _ _ _ vc vd wr.heap.size w' ((Hs.out.low hb hB).more (by have:=Hlow.out.size;omega)) hc hd hz hfc.pat (by omega) (by omega)
      have Hsa:=Lh hsa;have hrd1:=Hrd.out;obtain⟨bl,ol,A6,c6,rfl,hbl,d0,hcc⟩:=hrd1.cl_at (k:=0) (by simp);obtain⟨bl',ol',A7,c7,hbe,-,d1,hdd⟩:=hrd1.cl_at (k:=1) (by simp);cases hbe;simp only[List.getElem_cons_zero,List.getElem_cons_succ,Nat.add_zero]at d0 hcc d1 hdd;have hzw:=Hlow.out.size;have D0:=Lh d0;have Hcc:=Lh hcc;have D1:=Lh d1;have Hdd:=Lh hdd;clear hmk hfc hfd hlc hld hsa d0 hcc d1 hdd hl1 hrd1 h;go_upto_region 26 with(
       go_at_call 47
       refine Hcf.out.mono ?_;rintro e w4 ⟨rfl,hb4⟩;have y0:=(hb4.cell (p:=⟨w.heap.size+1,0,none⟩) (show w.heap.size+1<wr.heap.size by omega)).trans y0;have Hb4:=Lh hb4;clear hb4)
      obtain⟨r,hr⟩:∃r,iK s c d=r:=⟨_,rfl⟩;have Hr:=Lh hr;have hz4:=Hb4.out.size;clear hr y0 y1 y2 y3 y4 y5;refine rg 12 (λ_ w'=>Below w4.heap.size w4 w') ?_;intro wd hwd hbd;refine⟨?_,λhS=>?_⟩
      . exact hwd ▸ hbd
      refine tk 0 (.agg #[.int .i64 s.rule,.slice A1 s.parents.length n1,.slice A2 s.lits.length n2,.slice A3 s.right.length n3,.slice A4 s.pos.length n4,.slice A5 s.clause.length n5]) hS ?_ λhS=>?_
      . intro w' L hn hw;have hww:Below wr.heap.size wr w':=Hb4.out.trans (hw.mono (by omega));have o3:=((HX2.out.low Hup.out).low hww).cells;simp[execOp,go_sem,o3.1,o3.2.1,o3.2.2.1,o3.2.2.2.1,o3.2.2.2.2.1,o3.2.2.2.2.2]
      refine ta 1 (.slice (some ⟨bl,ol,none⟩) 2 cu) hS λhS=>?_
      refine ta 2 (.pointer (some ⟨bl,ol,none⟩)) hS λhS=>?_
      refine tk 3 (.slice A6 c.length c6) hS ?_ λhS=>?_
      . intro w' L hn hw;have hww:Below wr.heap.size wr w':=Hb4.out.trans (hw.mono (by omega));have o6:=(hww.cell (p:=⟨bl,ol,none⟩) (show bl<wr.heap.size by omega)).trans D0.out;simp[execOp,go_sem,o6]
      refine ta 4 (.slice (some ⟨bl,ol,none⟩) 2 cu) hS λhS=>?_
      refine ta 5 (.pointer (some ⟨bl,ol+1,none⟩)) hS λhS=>?_
      refine tk 6 (.slice A7 d.length c7) hS ?_ λhS=>?_
      . intro w' L hn hw;have hww:Below wr.heap.size wr w':=Hb4.out.trans (hw.mono (by omega));have o7:=(hww.cell (p:=⟨bl,ol+1,none⟩) (show bl<wr.heap.size by omega)).trans D1.out;simp[execOp,go_sem,o7]
      refine so 7 ?_;have hbd4:Below w4.heap.size w4 wd:=hwd ▸ hbd;have hzd:wd.heap.size=w4.heap.size:=(by rw[hwd]);have hc1:=Hsa.out _ _ wd (Hlow.out.trans ((Hb4.out.trans (hbd4.mono (by omega))).mono (by omega))) (Hcc.out.low (Hb4.out.trans (hbd4.mono (by omega))) (Nat.le_refl _)) (Hdd.out.low (Hb4.out.trans (hbd4.mono (by omega))) (Nat.le_refl _)) (by omega);rw[Hr.out]at hc1;refine aG ?_ hc1 ?_
      . simp[execOp,resolve,invoke,go_sem]
      rintro e w6 ⟨hb6,v6,rfl,hr6⟩;refine⟨_,rfl,?_⟩;refine gS ?_ λhS=>?_
      . exact hS.trans (hb6.mono hS.size)
      refine ta 8 (v6) hS λhS=>?_
      refine ta 9 (.bool r.isSome) hS λhS=>?_
      refine ta 10 (v6) hS λhS=>?_
      refine ta 11 (.bool r.isSome) hS λhS=>?_
      refine dn ?_;have Hlow6:=Lh (Hlow.out.trans ((Hb4.out.trans (hS.mono (by omega))).mono hzw));have Hr6:=Lh hr6;clear hS hwd hbd hb6 hc1 hbd4 hzd hr6;go_wp2_with fail;refine bodyPost_ret (v:=.tuple #[v6,.bool r.isSome]) (by simp[results,Try.results36,go_sem]) rfl ?_;rw[Hmk.out,Hr.out];exact⟨Hlow6.out,v6,rfl,Hr6.out⟩
    have hno:cF inp ps s=none:=by
     rw[Hmk.out];match l,hl1 with
     | [],_=>rfl
     | [_],_=>rfl
     | [_,_],h=>exact absurd rfl h
     | _::_::_::_,_=>rfl
    have hl2:¬((l.length:Int)=2):=(by omega);clear h;go_wp2_with (
     go_at_call 47
     refine Hcf.out.mono ?_;rintro e w4 ⟨rfl,hb4⟩;have y0:=(hb4.cell (p:=⟨w.heap.size+1,0,none⟩) (show w.heap.size+1<wr.heap.size by omega)).trans y0;have Hb4:=Lh hb4;clear hb4)
    refine bodyPost_ret (v:=.tuple #[.slice none 0 0,.bool false]) (by simp[results,Try.results36,go_sem]) rfl ?_;rw[hno];exact⟨Hlow.out.trans (Hb4.out.mono (by have:=Hlow.out.size;omega)),_,rfl,λc h=>by cases h⟩
  rw[if_neg hru3]at hmk;have hno:=hmk;have t2:(s.rule==2)=false:=by simp;omega
  have t3:(s.rule==3)=false:=by simp;omega
  have t4:(s.rule==4)=false:=by simp;omega
  have t5:(s.rule==5)=false:=by simp;omega
  have t6:(s.rule==6)=false:=by simp;omega
  have t7:(s.rule==7)=false:=by simp;omega
  have t8:(s.rule==8)=false:=by simp;omega
  clear hmk hru hru2 hru3;go_wp2_with (
   go_at_call 47
   refine Hcf.out.mono ?_;rintro e w4 ⟨rfl,hb4⟩;have y0:=(hb4.cell (p:=⟨w.heap.size+1,0,none⟩) (show w.heap.size+1<wr.heap.size by omega)).trans y0;have Hb4:=Lh hb4;clear hb4)
  refine bodyPost_ret (v:=.tuple #[.slice none 0 0,.bool false]) (by simp[results,Try.results36,go_sem]) rfl ?_;rw[hno];exact⟨Hlow.out.trans (Hb4.out.mono (by have:=Hlow.out.size;omega)),_,rfl,λc h=>by cases h⟩
theorem vL (bx:Array Value)(p:Nat->Bool)(xs:List Int)(v:Value)(B:Nat)(w:World)(hr:Rd w B (bM xs) v)(hB:B<=w.heap.size)
 (hclo:∀k (hk:k<xs.length) w1 ev,Below w.heap.size w w1->aK3 w1 B xs[k] ev->Calls Try.prog 35 (#[ev]++bx) w1 (aP (p k) w1)):
 Calls Try.prog 45 #[v,.func (.func 35) #[] bx] w (pK p xs.length w):=by
 obtain⟨A,c,rfl,hc,hn,hm⟩:=Rd.row_form hr;have H3:=Lh hr;have Hclo:=Lh hclo;clear hr hclo;go_enter Try.func45,Try.ntmps45;go_wp2_with fail;go_loopw [8] (λi wr=>∃k:Nat,k<=xs.length/\i=.int .i64 k/\(∀j,j<k->p j=false)/\Below w.heap.size w wr) (λi _=>xs.length-(intOf i).toNat)
 case atStart=>exact⟨0,Nat.zero_le _,rfl,λj hj=>by omega,Below.refl _ _⟩
 obtain⟨k,hk,rfl,hall,hbel⟩:=hrel;have Hall:=Lh hall;have Hbel:=Lh hbel;have hzr:=hbel.size;clear hall hbel;by_cases hlt:k<xs.length
 ·
  obtain⟨ab,off,rfl,hb,k0⟩:=Rd.leaf_at (f:=λn:Int=>Value.int .i64 n) (H3.out.low Hbel.out hB) hlt;have hcl:=Hclo.out k hlt wr (.int .i64 xs[k]) Hbel.out rfl;have Hcl:=Lh hcl;clear hcl;cases hp:p k with
  | true=>
   rw[hp]at Hcl;go_wp2_with (
    go_at_call 35
    refine Hcl.out.mono ?_;rintro e w1 ⟨rfl,hb1⟩)
   go_ret;exact⟨k,rfl,Hbel.out.trans (hb1.mono hzr),.inr ⟨k,hlt,rfl,eB hlt hp⟩⟩
  | false=>
   rw[hp]at Hcl;have Hp:=Lh hp;clear hp;go_wp2_with (
    go_at_call 35
    refine Hcl.out.mono ?_;rintro e w1 ⟨rfl,hb1⟩)
   go_roundw
   case rel=>
    refine⟨k+1,by omega,by go_num,λj hj=>?_,Hbel.out.trans (hb1.mono hzr)⟩;by_cases hjk:j=k
    . subst hjk;exact Hp.out
    exact Hall.out j (by omega)
   case measure=>simp[intOf];omega
 . go_wp2_with fail;go_ret;exact⟨-1,rfl,Hbel.out,.inl ⟨rfl,iJ λj hj=>Hall.out j (by omega)⟩⟩
theorem zG (bx:Array Value)(p:Nat->Bool)(xs:List Int)(v:Value)(B:Nat)(w:World)(hr:Rd w B (bM xs) v)(hB:B<=w.heap.size)
 (hclo:∀k (hk:k<xs.length) w1 ev,Below w.heap.size w w1->aK3 w1 B xs[k] ev->Calls Try.prog 35 (#[ev]++bx) w1 (aP (p k) w1)):
 Calls Try.prog 34 #[v,.func (.func 35) #[] bx] w (aP ((List.range xs.length).any p) w):=by
 have Hclo:=Lh hclo;have H3:=Lh hr;clear hclo hr;go_enter Try.func34,Try.ntmps34;go_wp2_with (
  go_at_call 45
  refine(vL bx p xs v B w H3.out hB Hclo.out).mono ?_;rintro e w1 ⟨i,rfl,hb1,hc1⟩)
 rcases hc1 with⟨rfl,h⟩ | ⟨k,hk,rfl,h⟩
 . go_ret;exact⟨by rw[h];rfl,hb1⟩
 go_ret;refine⟨?_,hb1⟩;rw[h];show Ending.returned (.bool (decide ((0:Int)<=(k:Int))))=_
 rw[decide_eq_true (by omega)]
theorem zF (xs:List Int)(m:Int)(b:Nat)(v:Value)(B:Nat)(w:World)(hr:Rd w B (bM xs) v)(hB:B<=w.heap.size)(hb:aU b 3 (.int .i64 m) w):
 Calls Try.prog 34 #[v,.func (.func 35) #[] #[.pointer (some ⟨b,0,none⟩)]] w (aP (xs.any λk=>decide (k<0\/m<=k)) w):=by
 have h:=zG #[.pointer (some ⟨b,0,none⟩)] (λk=>decide (xs[k]?.getD 0<0\/m<=xs[k]?.getD 0)) xs v B w hr hB λk hk w1 ev hb1 hv=>by
  rw[show ev=.int .i64 xs[k]from hv];have:=aF1 xs[k] m b w1 ((hb1.cell (p:=⟨b,0,none⟩) hb.lt).trans hb.cell);rw[List.getElem?_eq_getElem hk];exact this
 rw[sQ xs (λk=>decide (k<0\/m<=k)) 0]at h;exact h
structure StepOk (ps:List Sp):Prop where
 rng:∀q∈ps,∀x∈q.clause,kX x=true
 sz:∀q∈ps,aR q.clause<=10000000000
 par:∀q∈ps,q.parents.length<=2000000
theorem rK (inp:List Cl)(ps:List Sp)(n:Nat)(vi vp:Value)(B:Nat)(w:World)(hi:Rd w B (eY inp) vi)(hp:Rd w B (gO ps) vp)(hB:B<=w.heap.size)(hn:n<ps.length)(hok:StepOk ps):
 Calls Try.prog 23 #[.agg #[vi,vp],.int .i64 (n:Nat)] w (aP (dO inp ps n) w):=by
 obtain⟨Ai,ci,rfl,-,-,-⟩:=Rd.row_form (show Rd w B (.sl 1 (inp.map λc=>[aT c])) vi from hi);obtain⟨Ap,cp,rfl,-,-,-⟩:=Rd.row_form (show Rd w B (.sl 6 (ps.map eZ)) vp from hp);have Hi:=Lh hi;have Hp:=Lh hp;obtain⟨pb,po,u1,u2,u3,u4,u5,rfl,hpb,p0,p1,p2,p3,p4,p5,hsn⟩:=hp.sp_at hn;have hst:dO inp ps n=(eK ps[n].clause&& !(ps[n].parents.any λk=>decide (k<0\/(n:Int)<=k))&&match cF inp ps ps[n]with | none=>false | some c=>dW c ps[n].clause):=by
  unfold dO;rw[decide_eq_true (show (0:Int)<=(n:Int) by omega),decide_eq_true (show (n:Int)<ps.length by omega),Int.toNat_natCast,List.getElem?_eq_getElem hn];simp only[Bool.decide_or,Bool.true_and];all_goals (cases cF inp ps ps[n] <;> rfl)
 have hsz:=hok.sz ps[n] (List.getElem_mem hn);have hpl:=hok.par ps[n] (List.getElem_mem hn);obtain⟨s,hs⟩:∃s,ps[n]=s:=⟨_,rfl⟩;rw[hs]at p0 hsn hst hsz hpl;obtain⟨A1,c1,A2,c2,A3,c3,A4,c4,A5,c5,rfl,rfl,rfl,rfl,rfl,-⟩:=hsn.forms;have Hs:=Lh hsn;have Hst:=Lh hst;have Hsz:=Lh hsz;have hnn:¬((ps.length:Int)<=(n:Int)):=by omega
 clear hi hp hsn hst hsz hs;rw[Hst.out];cases hf:eK s.clause with
 | false=>
  have Hf:=Lh hf;clear hf;rw[Bool.false_and,Bool.false_and];go_enter Try.func23,Try.ntmps23;go_upto_region 1 with fail
  obtain⟨hx1,hx2,hB2,hz2⟩:=aO w (.cells #[.slice Ai inp.length ci,.slice (some ⟨pb,po,none⟩) ps.length cp] 66) (.cells #[.int .i64 (n:Nat)] 3);have hx1:aL w.heap.size 66 (.slice Ai inp.length ci) (.slice (some ⟨pb,po,none⟩) ps.length cp) _:=hx1;have hx2:aU (w.heap.size+1) 3 (.int .i64 (n:Nat)) _:=hx2;generalize (w.alloc (.cells #[.slice Ai inp.length ci,.slice (some ⟨pb,po,none⟩) ps.length cp] 66)).alloc (.cells #[.int .i64 (n:Nat)] 3)=w2 at hx1 hx2 hB2 hz2 ⊢;have HX1:=Lh hx1;have HX2:=Lh hx2;have HB2:=Lh hB2;obtain⟨y0,y1,-⟩:=hx1.cells;have x0:=hx2.cell;have q0:=(hB2.cell (p:=⟨pb,po+n*6,none⟩) (show pb<w.heap.size by omega)).trans p0;have q1:=(hB2.cell (p:=⟨pb,po+n*6+1,none⟩) (show pb<w.heap.size by omega)).trans p1;have q2:=(hB2.cell (p:=⟨pb,po+n*6+2,none⟩) (show pb<w.heap.size by omega)).trans p2;have q3:=(hB2.cell (p:=⟨pb,po+n*6+3,none⟩) (show pb<w.heap.size by omega)).trans p3;have q4:=(hB2.cell (p:=⟨pb,po+n*6+4,none⟩) (show pb<w.heap.size by omega)).trans p4;have q5:=(hB2.cell (p:=⟨pb,po+n*6+5,none⟩) (show pb<w.heap.size by omega)).trans p5;clear hx1 hx2 hB2;go_upto_region 2 with fail
  have hx3:dH w2.heap.size 45 (.int .i64 s.rule) (.slice A1 s.parents.length c1) (.slice A2 s.lits.length c2) (.slice A3 s.right.length c3) (.slice A4 s.pos.length c4) (.slice A5 s.clause.length c5) (w2.alloc (.cells #[.int .i64 s.rule,.slice A1 s.parents.length c1,.slice A2 s.lits.length c2,.slice A3 s.right.length c3,.slice A4 s.pos.length c4,.slice A5 s.clause.length c5] 45)):=heap_alloc_new w2 _;have hB3:=aD w2 (.cells #[.int .i64 s.rule,.slice A1 s.parents.length c1,.slice A2 s.lits.length c2,.slice A3 s.right.length c3,.slice A4 s.pos.length c4,.slice A5 s.clause.length c5] 45);have hz3:(w2.alloc (.cells #[.int .i64 s.rule,.slice A1 s.parents.length c1,.slice A2 s.lits.length c2,.slice A3 s.right.length c3,.slice A4 s.pos.length c4,.slice A5 s.clause.length c5] 45)).heap.size=w2.heap.size+1:=by simp
  generalize w2.alloc (.cells #[.int .i64 s.rule,.slice A1 s.parents.length c1,.slice A2 s.lits.length c2,.slice A3 s.right.length c3,.slice A4 s.pos.length c4,.slice A5 s.clause.length c5] 45)=w3 at hx3 hB3 hz3 ⊢;clear q0 q1 q2 q3 q4 q5 x0 y0 y1;rw[hz2]at hx3;obtain⟨x0,x1,x2,x3,x4,x5⟩:=hx3.cells;have Hz2:=Lh hz2;have Hz3:=Lh hz3;clear hz2 hz3;have hlow3:Below w.heap.size w w3:=HB2.out.trans (hB3.mono (by have:=Hz2.out;omega));have hfa:=mL s.clause _ B w3 Hsz.out (Hs.out.low hlow3 hB).clause (by have:=Hz2.out;have:=Hz3.out;omega);rw[Hf.out]at hfa;have Hlow3:=Lh hlow3;have HX3:=Lh hx3;have HB3:=Lh hB3;have Hfa:=Lh hfa;clear hlow3 hx3 hB3 hfa;go_wp2_with (
   skip
   go_at_call 33
   refine Hfa.out.mono ?_;rintro e w4 ⟨rfl,hb4⟩;obtain⟨x0,x1,x2,x3,x4,x5⟩:=(HX3.out.low hb4).cells;have Hb4:=Lh hb4;clear hb4
    )
  go_ret;exact⟨rfl,Hlow3.out.trans (Hb4.out.mono Hlow3.out.size)⟩
 | true=>
  have Hf:=Lh hf;clear hf;cases hpa:s.parents.any λk=>decide (k<0\/(n:Int)<=k)with
  | true=>
   have Hpa:=Lh hpa;clear hpa;rw[show (true&& !true)=false from rfl,Bool.false_and];go_enter Try.func23,Try.ntmps23;go_upto_region 1 with fail
   obtain⟨hx1,hx2,hB2,hz2⟩:=aO w (.cells #[.slice Ai inp.length ci,.slice (some ⟨pb,po,none⟩) ps.length cp] 66) (.cells #[.int .i64 (n:Nat)] 3);have hx1:aL w.heap.size 66 (.slice Ai inp.length ci) (.slice (some ⟨pb,po,none⟩) ps.length cp) _:=hx1;have hx2:aU (w.heap.size+1) 3 (.int .i64 (n:Nat)) _:=hx2;generalize (w.alloc (.cells #[.slice Ai inp.length ci,.slice (some ⟨pb,po,none⟩) ps.length cp] 66)).alloc (.cells #[.int .i64 (n:Nat)] 3)=w2 at hx1 hx2 hB2 hz2 ⊢;have HX1:=Lh hx1;have HX2:=Lh hx2;have HB2:=Lh hB2;obtain⟨y0,y1,-⟩:=hx1.cells;have x0:=hx2.cell;have q0:=(hB2.cell (p:=⟨pb,po+n*6,none⟩) (show pb<w.heap.size by omega)).trans p0;have q1:=(hB2.cell (p:=⟨pb,po+n*6+1,none⟩) (show pb<w.heap.size by omega)).trans p1;have q2:=(hB2.cell (p:=⟨pb,po+n*6+2,none⟩) (show pb<w.heap.size by omega)).trans p2;have q3:=(hB2.cell (p:=⟨pb,po+n*6+3,none⟩) (show pb<w.heap.size by omega)).trans p3;have q4:=(hB2.cell (p:=⟨pb,po+n*6+4,none⟩) (show pb<w.heap.size by omega)).trans p4;have q5:=(hB2.cell (p:=⟨pb,po+n*6+5,none⟩) (show pb<w.heap.size by omega)).trans p5;clear hx1 hx2 hB2;go_upto_region 2 with fail
   have hx3:dH w2.heap.size 45 (.int .i64 s.rule) (.slice A1 s.parents.length c1) (.slice A2 s.lits.length c2) (.slice A3 s.right.length c3) (.slice A4 s.pos.length c4) (.slice A5 s.clause.length c5) (w2.alloc (.cells #[.int .i64 s.rule,.slice A1 s.parents.length c1,.slice A2 s.lits.length c2,.slice A3 s.right.length c3,.slice A4 s.pos.length c4,.slice A5 s.clause.length c5] 45)):=heap_alloc_new w2 _;have hB3:=aD w2 (.cells #[.int .i64 s.rule,.slice A1 s.parents.length c1,.slice A2 s.lits.length c2,.slice A3 s.right.length c3,.slice A4 s.pos.length c4,.slice A5 s.clause.length c5] 45);have hz3:(w2.alloc (.cells #[.int .i64 s.rule,.slice A1 s.parents.length c1,.slice A2 s.lits.length c2,.slice A3 s.right.length c3,.slice A4 s.pos.length c4,.slice A5 s.clause.length c5] 45)).heap.size=w2.heap.size+1:=by simp
   generalize w2.alloc (.cells #[.int .i64 s.rule,.slice A1 s.parents.length c1,.slice A2 s.lits.length c2,.slice A3 s.right.length c3,.slice A4 s.pos.length c4,.slice A5 s.clause.length c5] 45)=w3 at hx3 hB3 hz3 ⊢;clear q0 q1 q2 q3 q4 q5 x0 y0 y1;rw[hz2]at hx3;obtain⟨x0,x1,x2,x3,x4,x5⟩:=hx3.cells;have Hz2:=Lh hz2;have Hz3:=Lh hz3;clear hz2 hz3;have hlow3:Below w.heap.size w w3:=HB2.out.trans (hB3.mono (by have:=Hz2.out;omega));have hfa:=mL s.clause _ B w3 Hsz.out (Hs.out.low hlow3 hB).clause (by have:=Hz2.out;have:=Hz3.out;omega);rw[Hf.out]at hfa;have Hlow3:=Lh hlow3;have HX3:=Lh hx3;have HB3:=Lh hB3;have Hfa:=Lh hfa;clear hlow3 hx3 hB3 hfa;go_wp2_with (
    first
    | (
     skip
     go_at_call 33
     refine Hfa.out.mono ?_;rintro e w4 ⟨rfl,hb4⟩;obtain⟨x0,x1,x2,x3,x4,x5⟩:=(HX3.out.low hb4).cells;have Hb4:=Lh hb4;clear hb4
      )
    | (
     skip
     go_at_call 34
     refine(zF s.parents n (w.heap.size+1) _ B _ (Hs.out.low (Hlow3.out.trans (Hb4.out.mono Hlow3.out.size)) hB).parents (by have:=Hz2.out;have:=Hz3.out;have:=Hb4.out.size;omega) ((HX2.out.low HB3.out).low Hb4.out)).mono ?_;rintro e w5 ⟨rfl,hb5⟩;rw[Hpa.out];obtain⟨x0,x1,x2,x3,x4,x5⟩:=((HX3.out.low Hb4.out).low hb5).cells;obtain⟨y0,y1,-⟩:=(((HX1.out.low HB3.out).low Hb4.out).low hb5).cells;have Hb5:=Lh hb5;clear hb5
      ))
   go_ret;exact⟨rfl,(Hlow3.out.trans (Hb4.out.mono Hlow3.out.size)).trans (Hb5.out.mono (by have:=Hlow3.out.size;have:=Hb4.out.size;omega))⟩
  | false=>
   have hpar:∀k∈s.parents,0<=k/\k<ps.length:=λk hk=>by
    have:=List.any_eq_false.1 hpa k hk;simp only[decide_eq_true_eq]at this;omega
   have Hpa:=Lh hpa;have hmk:=fun(w':World) (hb:Below w.heap.size w w')=>aD8 inp ps s _ _ _ _ _ _ _ B w' (Hi.out.low hb hB) (Hp.out.low hb hB) (Hs.out.low hb hB) (by have:=hb.size;omega) hpar hok.rng hok.sz hpl
   have Hmk:=Lh hmk;obtain⟨r,hr⟩:∃r,cF inp ps s=r:=⟨_,rfl⟩;rw[hr]at Hmk ⊢;clear hpa hpar hmk hr hpl;go_enter Try.func23,Try.ntmps23;go_upto_region 1 with fail
   obtain⟨hx1,hx2,hB2,hz2⟩:=aO w (.cells #[.slice Ai inp.length ci,.slice (some ⟨pb,po,none⟩) ps.length cp] 66) (.cells #[.int .i64 (n:Nat)] 3);have hx1:aL w.heap.size 66 (.slice Ai inp.length ci) (.slice (some ⟨pb,po,none⟩) ps.length cp) _:=hx1;have hx2:aU (w.heap.size+1) 3 (.int .i64 (n:Nat)) _:=hx2;generalize (w.alloc (.cells #[.slice Ai inp.length ci,.slice (some ⟨pb,po,none⟩) ps.length cp] 66)).alloc (.cells #[.int .i64 (n:Nat)] 3)=w2 at hx1 hx2 hB2 hz2 ⊢;have HX1:=Lh hx1;have HX2:=Lh hx2;have HB2:=Lh hB2;obtain⟨y0,y1,-⟩:=hx1.cells;have x0:=hx2.cell;have q0:=(hB2.cell (p:=⟨pb,po+n*6,none⟩) (show pb<w.heap.size by omega)).trans p0;have q1:=(hB2.cell (p:=⟨pb,po+n*6+1,none⟩) (show pb<w.heap.size by omega)).trans p1;have q2:=(hB2.cell (p:=⟨pb,po+n*6+2,none⟩) (show pb<w.heap.size by omega)).trans p2;have q3:=(hB2.cell (p:=⟨pb,po+n*6+3,none⟩) (show pb<w.heap.size by omega)).trans p3;have q4:=(hB2.cell (p:=⟨pb,po+n*6+4,none⟩) (show pb<w.heap.size by omega)).trans p4;have q5:=(hB2.cell (p:=⟨pb,po+n*6+5,none⟩) (show pb<w.heap.size by omega)).trans p5;clear hx1 hx2 hB2;go_upto_region 2 with fail
   have hx3:dH w2.heap.size 45 (.int .i64 s.rule) (.slice A1 s.parents.length c1) (.slice A2 s.lits.length c2) (.slice A3 s.right.length c3) (.slice A4 s.pos.length c4) (.slice A5 s.clause.length c5) (w2.alloc (.cells #[.int .i64 s.rule,.slice A1 s.parents.length c1,.slice A2 s.lits.length c2,.slice A3 s.right.length c3,.slice A4 s.pos.length c4,.slice A5 s.clause.length c5] 45)):=heap_alloc_new w2 _;have hB3:=aD w2 (.cells #[.int .i64 s.rule,.slice A1 s.parents.length c1,.slice A2 s.lits.length c2,.slice A3 s.right.length c3,.slice A4 s.pos.length c4,.slice A5 s.clause.length c5] 45);have hz3:(w2.alloc (.cells #[.int .i64 s.rule,.slice A1 s.parents.length c1,.slice A2 s.lits.length c2,.slice A3 s.right.length c3,.slice A4 s.pos.length c4,.slice A5 s.clause.length c5] 45)).heap.size=w2.heap.size+1:=by simp
   generalize w2.alloc (.cells #[.int .i64 s.rule,.slice A1 s.parents.length c1,.slice A2 s.lits.length c2,.slice A3 s.right.length c3,.slice A4 s.pos.length c4,.slice A5 s.clause.length c5] 45)=w3 at hx3 hB3 hz3 ⊢;clear q0 q1 q2 q3 q4 q5 x0 y0 y1;rw[hz2]at hx3;obtain⟨x0,x1,x2,x3,x4,x5⟩:=hx3.cells;have Hz2:=Lh hz2;have Hz3:=Lh hz3;clear hz2 hz3;have hlow3:Below w.heap.size w w3:=HB2.out.trans (hB3.mono (by have:=Hz2.out;omega));have hfa:=mL s.clause _ B w3 Hsz.out (Hs.out.low hlow3 hB).clause (by have:=Hz2.out;have:=Hz3.out;omega);rw[Hf.out]at hfa;have Hlow3:=Lh hlow3;have HX3:=Lh hx3;have HB3:=Lh hB3;have Hfa:=Lh hfa;clear hlow3 hx3 hB3 hfa;cases r with
   | none=>
    go_wp2_with (
     first
     | (
      skip
      go_at_call 33
      refine Hfa.out.mono ?_;rintro e w4 ⟨rfl,hb4⟩;obtain⟨x0,x1,x2,x3,x4,x5⟩:=(HX3.out.low hb4).cells;have Hb4:=Lh hb4;clear hb4
       )
     | (
      skip
      go_at_call 34
      refine(zF s.parents n (w.heap.size+1) _ B _ (Hs.out.low (Hlow3.out.trans (Hb4.out.mono Hlow3.out.size)) hB).parents (by have:=Hz2.out;have:=Hz3.out;have:=Hb4.out.size;omega) ((HX2.out.low HB3.out).low Hb4.out)).mono ?_;rintro e w5 ⟨rfl,hb5⟩;rw[Hpa.out];obtain⟨x0,x1,x2,x3,x4,x5⟩:=((HX3.out.low Hb4.out).low hb5).cells;obtain⟨y0,y1,-⟩:=(((HX1.out.low HB3.out).low Hb4.out).low hb5).cells;have Hb5:=Lh hb5;clear hb5
       )
     | (
      go_at_call 36
      refine(Hmk.out _ ((Hlow3.out.trans (Hb4.out.mono Hlow3.out.size)).trans (Hb5.out.mono (by have:=Hlow3.out.size;have:=Hb4.out.size;omega)))).mono ?_;rintro e w6 ⟨hb6,v6,rfl,hr6⟩;have Hb6:=Lh hb6;clear hb6 hr6))
    go_ret;exact⟨rfl,((Hlow3.out.trans (Hb4.out.mono Hlow3.out.size)).trans (Hb5.out.mono (by have:=Hlow3.out.size;have:=Hb4.out.size;omega))).trans (Hb6.out.mono (by have:=Hlow3.out.size;have:=Hb4.out.size;have:=Hb5.out.size;omega))⟩
   | some c=>
    go_wp2_with (
     first
     | (
      skip
      go_at_call 33
      refine Hfa.out.mono ?_;rintro e w4 ⟨rfl,hb4⟩;obtain⟨x0,x1,x2,x3,x4,x5⟩:=(HX3.out.low hb4).cells;have Hb4:=Lh hb4;clear hb4
       )
     | (
      skip
      go_at_call 34
      refine(zF s.parents n (w.heap.size+1) _ B _ (Hs.out.low (Hlow3.out.trans (Hb4.out.mono Hlow3.out.size)) hB).parents (by have:=Hz2.out;have:=Hz3.out;have:=Hb4.out.size;omega) ((HX2.out.low HB3.out).low Hb4.out)).mono ?_;rintro e w5 ⟨rfl,hb5⟩;rw[Hpa.out];obtain⟨x0,x1,x2,x3,x4,x5⟩:=((HX3.out.low Hb4.out).low hb5).cells;obtain⟨y0,y1,-⟩:=(((HX1.out.low HB3.out).low Hb4.out).low hb5).cells;have Hb5:=Lh hb5;clear hb5
       )
     | (
      go_at_call 36
      refine(Hmk.out _ ((Hlow3.out.trans (Hb4.out.mono Hlow3.out.size)).trans (Hb5.out.mono (by have:=Hlow3.out.size;have:=Hb4.out.size;omega)))).mono ?_;rintro e w6 ⟨hb6,v6,rfl,hr6⟩;have hr6:=hr6 _ rfl;obtain⟨A6,c6,rfl,-,-,-⟩:=Rd.cl_form hr6;obtain⟨x0,x1,x2,x3,x4,x5⟩:=(((HX3.out.low Hb4.out).low Hb5.out).low hb6).cells;have Hb6:=Lh hb6;have Hr6:=Lh hr6;clear hb6 hr6)
     | (
      go_at_call 37
      refine(vP c s.clause _ _ _ _ Hr6.out ((Hs.out.low (((Hlow3.out.trans (Hb4.out.mono Hlow3.out.size)).trans (Hb5.out.mono (by have:=Hlow3.out.size;have:=Hb4.out.size;omega))).trans (Hb6.out.mono (by have:=Hlow3.out.size;have:=Hb4.out.size;have:=Hb5.out.size;omega))) hB).clause.more (by have:=Hlow3.out.size;have:=Hb4.out.size;have:=Hb5.out.size;have:=Hb6.out.size;omega)) (Nat.le_refl _)).mono ?_;rintro e w7 ⟨rfl,hb7⟩;have Hb7:=Lh hb7;clear hb7))
    go_ret;exact⟨rfl,(((Hlow3.out.trans (Hb4.out.mono Hlow3.out.size)).trans (Hb5.out.mono (by have:=Hlow3.out.size;have:=Hb4.out.size;omega))).trans (Hb6.out.mono (by have:=Hlow3.out.size;have:=Hb4.out.size;have:=Hb5.out.size;omega))).trans (Hb7.out.mono (by have:=Hlow3.out.size;have:=Hb4.out.size;have:=Hb5.out.size;have:=Hb6.out.size;omega))⟩
theorem aJ3 (inp:List Cl)(ps:List Sp)(n:Int)(vi vp:Value)(B:Nat)(w:World)(hi:Rd w B (eY inp) vi)(hp:Rd w B (gO ps) vp)(hB:B<=w.heap.size)(hok:StepOk ps):
 Calls Try.prog 10 #[vi,vp,.int .i64 n] w (aP (dO inp ps n) w):=by
 obtain⟨Ai,ci,rfl,-,-,-⟩:=Rd.row_form (show Rd w B (.sl 1 (inp.map λc=>[aT c])) vi from hi);obtain⟨Ap,cp,rfl,-,-,-⟩:=Rd.row_form (show Rd w B (.sl 6 (ps.map eZ)) vp from hp);have Hi:=Lh hi;have Hp:=Lh hp;have Hok:=Lh hok;clear hi hp hok;by_cases h0:0<=n
 . obtain⟨k,rfl⟩:∃k:Nat,n=(k:Int):=⟨n.toNat,by omega⟩;by_cases h1:(k:Int)<(ps.length:Int)
   . have hst:=rK inp ps k _ _ B w Hi.out Hp.out hB (by omega) Hok.out;have Hst:=Lh hst;clear hst;go_enter Try.func10,Try.ntmps10;go_wp2_with (
      go_at_call 23
      refine Hst.out.mono ?_;rintro e w3 ⟨rfl,hb3⟩)
     go_ret;exact⟨rfl,hb3⟩
   have hno:dO inp ps k=false:=by unfold dO;rw[decide_eq_false h1];simp
   rw[hno];clear hno;go_enter Try.func10,Try.ntmps10;go_wp2_with fail;go_ret;exact⟨rfl,Below.refl _ _⟩
 have hno:dO inp ps n=false:=by unfold dO;rw[decide_eq_false h0];simp
 rw[hno];clear hno;go_enter Try.func10,Try.ntmps10;go_wp2_with fail;go_ret;exact⟨rfl,Below.refl _ _⟩
end Go.Proofs.Ytiaoabfndnidiaa
namespace Go.Proofs.Ytiaoabfndnidiaa
open Go.RowKit Go.ChangeShapes Go.WideShapes Go.ChangeAt
theorem uW {α:Type} (l:List α)(j:Nat)(d:α)(h:j<l.length):l[j]? =some (l[j]?.getD d):=by
 rw[List.getElem?_eq_getElem h];rfl
theorem aA1 {α:Type} {Q:Nat->α->Prop}:∀{n:Nat},(∀i,i<n->∃x,Q i x)->∃l:List α,l.length=n/\∀i (hi:i<l.length),Q i l[i]
 | 0,_=>⟨[],rfl,λi hi=>by simp at hi⟩
 | n+1,h=>by
  obtain⟨l,hl,hq⟩:=aA1 (n:=n) λi hi=>h i (by omega)
  obtain⟨x,hx⟩:=h n (by omega);refine⟨l++[x],by simp[hl],λi hi=>?_⟩;by_cases h1:i<l.length
  . rw[List.getElem_append_left h1];exact hq i h1
  have h2:i=l.length:=by simp at hi;omega
  subst h2;rw[List.getElem_append_right (Nat.le_refl _)];simp only[Nat.sub_self,List.getElem_cons_zero];rw[hl];exact hx
theorem hH {α:Type} {w:World} {B size b off len cap:Nat} {Q:Nat->α->Prop} (e:α->List Tr)(he:∀x,(e x).length=size)(hlc:len<=cap)(hn:len<=140737488351232)(hm:cap<=maxLen)(hb:b<B)
 (h:∀i,i<len->∃x:α,∃us:Nat->Value,(∀j,j<size->w.cell? ⟨b,off+i*size+j,none⟩=some (us j))/\(∀j (h':j<(e x).length),Rd w B (e x)[j] (us j))/\Q i x):
 ∃xs:List α,Rd w B (.sl size (xs.map e)) (.slice (some ⟨b,off,none⟩) len cap)/\xs.length=len/\∀i (hi:i<xs.length),Q i xs[i]:=by
 obtain⟨l,hl,hq⟩:=aA1 (α:=α × (Nat->Value)) (Q:=λi p=>(∀j,j<size->w.cell? ⟨b,off+i*size+j,none⟩=some (p.2 j))/\(∀j (h':j<(e p.1).length),Rd w B (e p.1)[j] (p.2 j))/\Q i p.1)
  (λi hi=>by obtain⟨x,us,h⟩:=h i hi;exact⟨(x,us),h⟩)
 refine⟨l.map (·.1),?_,by simp[hl],λi hi=>?_⟩
 . have hlen:((l.map (·.1)).map e).length=len:=by simp[hl]
   have:=Rd.row (w:=w) (B:=B) size b off cap ((l.map (·.1)).map e) (λk j=>((l[k]?.map (·.2)).getD (λ_=>undef)) j)
    (by intro r hr;obtain⟨x,_,rfl⟩:=List.mem_map.1 hr;exact he x) (by omega) (by omega) hm hb
    (λk j hk hj=>by
     have hk':k<l.length:=(by omega);rw[List.getElem?_eq_getElem hk'];exact(hq k hk').1 j hj)
    (λk hk j hj=>by
     have hk':k<l.length:=(by omega);rw[List.getElem?_eq_getElem hk'];simp only[List.getElem_map]at hj ⊢;exact(hq k hk').2.1 j hj)
   rw[hlen]at this;exact this
 have hi':i<l.length:=by simpa using hi
 rw[List.getElem_map];exact(hq i hi').2.2
theorem aN7 {n:Int} (h:(Lit.int .i64 n).wf=true): -9223372036854775808<=n/\n<=9223372036854775807:=by
 simp[Lit.wf,IntKind.min,IntKind.max,IntKind.bits,IntKind.signed]at h
 omega
theorem zH {α:Type} (f:α->Nat):∀{xs:List α} {bl:List Nat},xs.length=bl.length->(∀i (h:i<xs.length) (h':i<bl.length),f xs[i]<=bl[i])->(xs.map f).sum<=bl.sum
 | [],bl,h,_=>by simp
 | x::xs,[],h,_=>by simp at h
 | x::xs,b::bl,h,hh=>by
  have h0:=hh 0 (by simp) (by simp);have:=zH f (xs:=xs) (bl:=bl) (by simpa using h) λi hi hi'=>by
   have:=hh (i+1) (by simpa using hi) (by simpa using hi');simpa using this
  simp only[List.getElem_cons_zero]at h0;simp only[List.map_cons,List.sum_cons];omega
theorem fO:∀{bl:List Nat} {i:Nat} (h:i<bl.length),bl[i]<=bl.sum
 | [],i,h=>by simp at h
 | b::bl,0,_=>by simp
 | b::bl,i+1,h=>by
  have:=fO (bl:=bl) (i:=i) (by simpa using h);simp only[List.getElem_cons_succ,List.sum_cons];omega
section
variable {H:Type} {enc:TypeId × Value->H} {w:World}
theorem wD (d:DataW H):1<=Rows.uptoBulk d:=by
 cases d with
 | lit l=>cases l <;> simp[Rows.uptoBulk]
 | nil=>simp[Rows.uptoBulk]
 | ptr d=>simp[Rows.uptoBulk]
 | slice elems spare=>simp[Rows.uptoBulk]
 | agg parts=>simp[Rows.uptoBulk]
 | iface t d=>simp[Rows.uptoBulk]
 | map entries=>simp[Rows.uptoBulk]
 | held h=>simp[Rows.uptoBulk]
theorem wE:∀l:List (DataW H),Rows.uptoBulkAll l=(l.map Rows.uptoBulk).sum
 | []=>by simp[Rows.uptoBulkAll]
 | d::l=>by simp[Rows.uptoBulkAll,wE l]
theorem wC:∀l:List (DataW H),l.length<=Rows.uptoBulkAll l
 | []=>by simp
 | d::l=>by have:=wC l;have:=wD d;simp only[Rows.uptoBulkAll,List.length_cons];omega
def iH (enc:TypeId × Value->H)(w:World)(t:TypeId)(cs:List Value)(fuel n:Nat):Prop:=
 ∃x,DataW.trod enc Try.prog w 0 (λ_=>true) true fuel t cs=some x/\Rows.uptoBulk x.1=n
theorem aB7 {a:Addr} {v:Value} (h:w.cell? a=some v):a.spot=none/\a.block<w.heap.size:=by
 unfold World.cell? at h;split at h
 . rename_i c t f hb
   split at h
   . cases h
   rename_i hs
   exact⟨by simpa using hs,(Array.getElem?_eq_some_iff.1 hb).1⟩
 cases h
theorem aK7 {b off m j:Nat}:((⟨b,off,none⟩:Addr).add m).add j=⟨b,off+m+j,none⟩:=by
 unfold Addr.add;by_cases h1:m=0
 . subst h1;by_cases h2:j=0
   . subst h2;rfl
   simp[h2]
 by_cases h2:j=0
 . subst h2;simp[h1]
 simp[h1,h2]
theorem iH.slice {t e size fuel n:Nat} {v:Value} (hu:Try.prog.underlying t=some (.slice e))(hs:Try.prog.cellsOf e=size)(hpos:0<size)(hn:n<=1048576)(h:iH enc w t [v] fuel n):
 (∃A,v=.slice A 0 0)/\1<=n\/∃(b off len cap m:Nat) (bl:List Nat),fuel=m+1/\v=.slice (some ⟨b,off,none⟩) len cap/\len<=cap/\len<=140737488351232/\cap<=maxLen/\b<w.heap.size/\bl.length=len/\bl.sum+1<=n/\len+1<=n/\
  ∀i (hi:i<bl.length),∃cs:List Value,cs.length=size/\(∀j,j<size->w.cell? ⟨b,off+i*size+j,none⟩=cs[j]?)/\iH enc w e cs m bl[i]:=by
 obtain⟨x,hx,hz⟩:=h;have hpos1:=wD x.1;rcases DataW.trod_slice hu hx with⟨h1,_⟩ | ⟨a,len,cap,elems,rest,m,rfl,h1,rfl,_,hlc,hm,hel,hat,hrest,_⟩
 . injection h1 with h1
   exact .inl ⟨⟨none,h1⟩,by omega⟩
 injection h1 with h1
 subst h1;obtain⟨hrl,hra⟩:=hrest rfl;rw[hs]at hat hra;by_cases hc:cap=0
 . subst hc;have hl0:len=0:=by omega
   subst hl0;exact .inl ⟨⟨_,rfl⟩,by omega⟩
 have hcell:∃cs,w.cells? 0 (a.add (0*size)) size=some cs:=by
  by_cases hl:len=0
  . subst hl;have:=hra 0 (by omega);cases hcs:w.cells? 0 (a.add ((0+0)*size)) size with
    | some cs=>exact⟨cs,by simp⟩
    | none=>rw[hcs,List.getElem?_eq_getElem (by omega)]at this;cases this
  have:=hat 0 (by omega);cases hcs:w.cells? 0 (a.add (0*size)) size with
  | some cs=>exact⟨cs,rfl⟩
  | none=>rw[hcs,List.getElem?_eq_getElem (by omega)]at this;cases this
 obtain⟨cs,hcs⟩:=hcell;obtain⟨_,hcl,hcc⟩:=World.cells?_some hcs;have h0:=hcc 0 hpos;rw[List.getElem?_eq_getElem (by omega)]at h0;have ha0:(a.add (0*size)).add 0=a:=by simp[Addr.add]
 rw[ha0]at h0;obtain⟨hsp,hbl⟩:=aB7 h0;obtain⟨b,off,sp⟩:=a;simp only at hsp hbl;subst hsp;simp only[Rows.uptoBulk]at hz;have hbl1:=wC (elems.map (·.1));rw[List.length_map]at hbl1;refine .inr ⟨b,off,len,cap,m,(elems.map (·.1)).map Rows.uptoBulk,rfl,rfl,hlc,by omega,hm,hbl,by simp[hel],by rw[<-wE];omega,by omega,λi hi=>?_⟩;have hie:i<elems.length:=by simpa using hi
 have hi':=hat i (by omega);rw[List.getElem?_eq_getElem hie]at hi';cases hcs':w.cells? 0 ((⟨b,off,none⟩:Addr).add (i*size)) size with
 | none=>rw[hcs']at hi';cases hi'
 | some cs'=>
  rw[hcs']at hi';obtain⟨_,hcl',hcc'⟩:=World.cells?_some hcs';refine⟨cs',hcl',λj hj=>?_,elems[i],hi',?_⟩
  . rw[<-hcc' j hj,aK7]
  simp
theorem Rd.nil_ {w:World} {B size:Nat} (A:Option Addr):Rd w B (.sl size []) (.slice A 0 0):=by
 cases A with
 | none=>exact .none_ _
 | some a=>exact .empty _ a
theorem zI {m n:Nat} {cs:List Value} (hl:cs.length=2)(hn:n<=1048576)(h:iH enc w 51 cs m n)(ih:∀m' v n',m'<m->n'<=1048576->iH enc w 49 [v] m' n'->∃xs:List Tm,Rd w w.heap.size (.sl 2 (xs.map bB)) v/\lF xs=true/\aI xs+1<=n'):
 ∃(t:Tm),∃us:Nat->Value,(∀j,j<2->cs[j]? =some (us j))/\(∀j (h':j<(bB t).length),Rd w w.heap.size (bB t)[j] (us j))/\oG t=true/\aK t<=n:=by
 obtain⟨c0,c1,rfl⟩:∃c0 c1,cs=[c0,c1]:=by
  match cs,hl with
  | [c0,c1],_=>exact⟨_,_,rfl⟩
 obtain⟨x,hx,hw⟩:=h;obtain⟨xs,m,rfl,rfl,_,hxl,hf⟩:=DataW.trod_struct Try.underlying51 hx;obtain⟨x0,x1,rfl⟩:∃x0 x1,xs=[x0,x1]:=by
  match xs,hxl with
  | [x0,x1],_=>exact⟨_,_,rfl⟩
 have f0:=hf 0 _ rfl;have f1:=hf 1 _ rfl;simp only[List.getElem?_cons_zero,List.getElem?_cons_succ]at f0 f1;obtain⟨f,e0,_,hwf⟩:=DataW.trod_int Try.underlying3 f0;have e0':c0=.int .i64 f:=by injection e0
 subst e0';simp only[Rows.uptoBulk,Rows.uptoBulkAll,List.map_cons,List.map_nil]at hw;obtain⟨ts,hts,hr,hz⟩:=ih m c1 (Rows.uptoBulk x1.1) (by omega) (by omega) ⟨x1,f1,rfl⟩;refine⟨.mk f ts,λj=>[Value.int .i64 f,c1][j]?.getD undef,λj hj=>?_,λj hj=>?_,?_,?_⟩
 . exact uW _ _ _ (by simpa using hj)
 . match j,hj with
   | 0,_=>exact .leaf _
   | 1,_=>
    show Rd w w.heap.size (.sl 2 (aH ts)) c1
    rw[bS];exact hts
 . rw[oG,hr,Bool.and_true,decide_eq_true_eq];exact(aN7 hwf).1
 rw[aK];omega
theorem tT:∀{xs:List Tm},(∀i (h:i<xs.length),oG xs[i]=true)->lF xs=true
 | [],_=>by rw[lF]
 | x::xs,h=>by
  rw[lF,show oG x=true from h 0 (by simp),Bool.true_and];exact tT λi hi=>by have:=h (i+1) (by simpa using hi);simpa using this
theorem rJ:∀xs:List Tm,aI xs=(xs.map aK).sum
 | []=>by rw[aI];rfl
 | x::xs=>by rw[aI,rJ xs];rfl
theorem xG:∀(fuel:Nat) (v:Value) (n:Nat),n<=1048576->iH enc w 49 [v] fuel n->∃xs:List Tm,Rd w w.heap.size (.sl 2 (xs.map bB)) v/\lF xs=true/\aI xs+1<=n:=by
 intro fuel;induction fuel using Nat.strongRecOn with
 | ind fuel ih=>
  intro v n hn h;rcases h.slice Try.underlying49 (size:=2) (by kernel_rfl) (by omega) hn with⟨⟨A,rfl⟩,hp⟩ | ⟨b,off,len,cap,m,bl,rfl,rfl,h1,h2,h3,h4,h5,h6,-,h7⟩
  . exact⟨[],Rd.nil_ A,by rw[lF],by rw[aI];omega⟩
  obtain⟨xs,hxs,hxl,hq⟩:=hH (Q:=λi t=>oG t=true/\∀h:i<bl.length,aK t<=bl[i]) bB aC3 h1 h2 h3 h4 λi hi=>by
   obtain⟨cs,hl,hc,hr⟩:=h7 i (by omega);have:=fO (bl:=bl) (i:=i) (by omega);obtain⟨t,us,hu,hrd,hg,hz⟩:=zI hl (by omega) hr (λm' v n' hm' hn'=>ih m' (by omega) v n' hn');exact⟨t,us,λj hj=>(hc j hj).trans (hu j hj),hrd,hg,λ_=>hz⟩
  refine⟨xs,hxs,tT λi hi=>(hq i hi).1,?_⟩;have:=zH aK (xs:=xs) (bl:=bl) (by omega) λi hi hi'=>(hq i hi).2 hi'
  rw[rJ];omega
theorem aA3 {fuel n:Nat} {v:Value} (hn:n<=1048576)(h:iH enc w 38 [v] fuel n):∃c:Cl,Rd w w.heap.size (aT c) v/\(∀x∈c,kX x=true)/\aR c+1<=n:=by
 rcases h.slice Try.underlying38 (size:=5) (by kernel_rfl) (by omega) hn with⟨⟨A,rfl⟩,hp⟩ | ⟨b,off,len,cap,m,bl,rfl,rfl,h1,h2,h3,h4,h5,h6,-,h7⟩
 . exact⟨[],Rd.nil_ A,by simp,by simp[aR];omega⟩
 obtain⟨xs,hxs,hxl,hq⟩:=hH (Q:=λi x=>kX x=true/\∀h:i<bl.length,dN x<=bl[i]) aQ nT h1 h2 h3 h4 λi hi=>by
  obtain⟨cs,hl,hc,hr⟩:=h7 i (by omega);have hbi:=fO (bl:=bl) (i:=i) (by omega);obtain⟨c0,c1,c2,c3,c4,rfl⟩:∃c0 c1 c2 c3 c4,cs=[c0,c1,c2,c3,c4]:=by
   match cs,hl with
   | [c0,c1,c2,c3,c4],_=>exact⟨_,_,_,_,_,rfl⟩
  obtain⟨x,hx,hw⟩:=hr;obtain⟨xs,m,rfl,rfl,_,hxl,hf⟩:=DataW.trod_struct Try.underlying53 hx;obtain⟨x0,x1,x2,rfl⟩:∃x0 x1 x2,xs=[x0,x1,x2]:=by
   match xs,hxl with
   | [x0,x1,x2],_=>exact⟨_,_,_,rfl⟩
  have f0:=hf 0 _ rfl;have f1:=hf 1 _ rfl;have f2:=hf 2 _ rfl;simp only[List.getElem?_cons_zero,List.getElem?_cons_succ]at f0 f1 f2;obtain⟨b',e0,_⟩:=DataW.trod_bool Try.underlying4 f0;have e0':c0=.bool b':=by injection e0
  subst e0';simp only[Rows.uptoBulk,Rows.uptoBulkAll,List.map_cons,List.map_nil]at hw;obtain⟨t1,us1,hu1,hr1,hg1,hz1⟩:=zI (cs:=[c1,c2]) rfl (n:=Rows.uptoBulk x1.1) (by omega) ⟨x1,f1,rfl⟩ (λm' v n' _ hn'=>xG m' v n' hn');obtain⟨t2,us2,hu2,hr2,hg2,hz2⟩:=zI (cs:=[c3,c4]) rfl (n:=Rows.uptoBulk x2.1) (by omega) ⟨x2,f2,rfl⟩ (λm' v n' _ hn'=>xG m' v n' hn');refine⟨⟨b',t1,t2⟩,λj=>if j=0 then .bool b' else if j<3 then us1 (j-1)else us2 (j-3),λj hj=>?_,λj hj=>?_,?_,λ_=>?_⟩
  . rw[hc j hj];match j,hj with
    | 0,_=>rfl
    | 1,_=>exact hu1 0 (by omega)
    | 2,_=>exact hu1 1 (by omega)
    | 3,_=>exact hu2 0 (by omega)
    | 4,_=>exact hu2 1 (by omega)
  . cases t1;cases t2;match j,hj with
    | 0,_=>exact .leaf _
    | 1,_=>exact hr1 0 (by simp[bB])
    | 2,_=>exact hr1 1 (by simp[bB])
    | 3,_=>exact hr2 0 (by simp[bB])
    | 4,_=>exact hr2 1 (by simp[bB])
  . show (oG t1&&oG t2)=true
    rw[hg1,hg2];rfl
  show aK t1+aK t2<=_
  omega
 refine⟨xs,hxs,λx hx=>?_,?_⟩
 . obtain⟨i,hi,rfl⟩:=List.mem_iff_getElem.1 hx;exact(hq i hi).1
 have:=zH dN (xs:=xs) (bl:=bl) (by omega) λi hi hi'=>(hq i hi).2 hi'
 unfold aR;omega
theorem aI5 {fuel n:Nat} {v:Value} (hn:n<=1048576)(h:iH enc w 28 [v] fuel n):∃cs:List Cl,Rd w w.heap.size (eY cs) v/\(∀c∈cs,(∀x∈c,kX x=true)/\aR c<=n)/\cs.length<=n:=by
 rcases h.slice Try.underlying28 (size:=1) (by kernel_rfl) (by omega) hn with⟨⟨A,rfl⟩,hp⟩ | ⟨b,off,len,cap,m,bl,rfl,rfl,h1,h2,h3,h4,h5,h6,h8,h7⟩
 . exact⟨[],Rd.nil_ A,by simp,by simp⟩
 obtain⟨xs,hxs,hxl,hq⟩:=hH (Q:=λ_ (c:Cl)=>(∀x∈c,kX x=true)/\aR c<=n) (λc=>[aT c]) (λ_=>rfl) h1 h2 h3 h4 λi hi=>by
  obtain⟨cs,hl,hc,hr⟩:=h7 i (by omega);have hbi:=fO (bl:=bl) (i:=i) (by omega);obtain⟨c0,rfl⟩:∃c0,cs=[c0]:=by
   match cs,hl with
   | [c0],_=>exact⟨_,rfl⟩
  obtain⟨c,hrd,hg,hz⟩:=aA3 (by omega) hr;refine⟨c,λ_=>c0,λj hj=>?_,λj hj=>?_,hg,by omega⟩
  . have hj0:j=0:=(by have:j<1:=hj;omega);subst hj0;exact hc 0 (by omega)
  have hj0:j=0:=by simp at hj;omega
  subst hj0;exact hrd
 exact⟨xs,hxs,λc hc=>by obtain⟨i,hi,rfl⟩:=List.mem_iff_getElem.1 hc;exact hq i hi,by omega⟩
theorem pI {t fuel n:Nat} {v:Value} (hu:Try.prog.underlying t=some (.slice 3))(hn:n<=1048576)(h:iH enc w t [v] fuel n):∃xs:List Int,Rd w w.heap.size (bM xs) v/\xs.length<=n:=by
 rcases h.slice hu (size:=1) (by kernel_rfl) (by omega) hn with⟨⟨A,rfl⟩,hp⟩ | ⟨b,off,len,cap,m,bl,rfl,rfl,h1,h2,h3,h4,h5,h6,h8,h7⟩
 . exact⟨[],Rd.nil_ A,by simp⟩
 obtain⟨xs,hxs,hxl,hq⟩:=hH (Q:=λ_ (_:Int)=>True) (λn=>[.leaf (.int .i64 n)]) (λ_=>rfl) h1 h2 h3 h4 λi hi=>by
  obtain⟨cs,hl,hc,x,hx,hw⟩:=h7 i (by omega);obtain⟨k,e0,_,hk⟩:=DataW.trod_int Try.underlying3 hx;subst e0;refine⟨k,λ_=>.int .i64 k,λj hj=>?_,λj hj=>?_,trivial⟩
  . have hj0:j=0:=(by have:j<1:=hj;omega);subst hj0;exact hc 0 (by omega)
  have hj0:j=0:=by simp at hj;omega
  subst hj0;exact .leaf _
 exact⟨xs,hxs,by omega⟩
theorem aL4 {t fuel n:Nat} {v:Value} (hu:Try.prog.underlying t=some (.slice 4))(hn:n<=1048576)(h:iH enc w t [v] fuel n):∃xs:List Bool,Rd w w.heap.size (wI xs) v:=by
 rcases h.slice hu (size:=1) (by kernel_rfl) (by omega) hn with⟨⟨A,rfl⟩,hp⟩ | ⟨b,off,len,cap,m,bl,rfl,rfl,h1,h2,h3,h4,h5,h6,h8,h7⟩
 . exact⟨[],Rd.nil_ A⟩
 obtain⟨xs,hxs,hxl,hq⟩:=hH (Q:=λ_ (_:Bool)=>True) (λn=>[.leaf (.bool n)]) (λ_=>rfl) h1 h2 h3 h4 λi hi=>by
  obtain⟨cs,hl,hc,x,hx,hw⟩:=h7 i (by omega);obtain⟨k,e0,_⟩:=DataW.trod_bool Try.underlying4 hx;subst e0;refine⟨k,λ_=>.bool k,λj hj=>?_,λj hj=>?_,trivial⟩
  . have hj0:j=0:=(by have:j<1:=hj;omega);subst hj0;exact hc 0 (by omega)
  have hj0:j=0:=by simp at hj;omega
  subst hj0;exact .leaf _
 exact⟨xs,hxs⟩
theorem aI6 {fuel n:Nat} {v:Value} (hn:n<=1048576)(h:iH enc w 29 [v] fuel n):∃l:List Sp,Rd w w.heap.size (gO l) v/\(∀s∈l,(∀x∈s.clause,kX x=true)/\aR s.clause<=n/\s.parents.length<=n)/\l.length<=n:=by
 rcases h.slice Try.underlying29 (size:=6) (by kernel_rfl) (by omega) hn with⟨⟨A,rfl⟩,hp⟩ | ⟨b,off,len,cap,m,bl,rfl,rfl,h1,h2,h3,h4,h5,h6,h8,h7⟩
 . exact⟨[],Rd.nil_ A,by simp,by simp⟩
 obtain⟨xs,hxs,hxl,hq⟩:=hH (Q:=λ_ (s:Sp)=>(∀x∈s.clause,kX x=true)/\aR s.clause<=n/\s.parents.length<=n) eZ (λ_=>rfl) h1 h2 h3 h4 λi hi=>by
  obtain⟨cs,hl,hc,x,hx,hw⟩:=h7 i (by omega);have hbi:=fO (bl:=bl) (i:=i) (by omega);obtain⟨c0,c1,c2,c3,c4,c5,rfl⟩:∃c0 c1 c2 c3 c4 c5,cs=[c0,c1,c2,c3,c4,c5]:=by
   match cs,hl with
   | [c0,c1,c2,c3,c4,c5],_=>exact⟨_,_,_,_,_,_,rfl⟩
  obtain⟨xs,m,rfl,rfl,_,hxl,hf⟩:=DataW.trod_struct Try.underlying45 hx;obtain⟨x0,x1,x2,x3,x4,x5,rfl⟩:∃x0 x1 x2 x3 x4 x5,xs=[x0,x1,x2,x3,x4,x5]:=by
   match xs,hxl with
   | [x0,x1,x2,x3,x4,x5],_=>exact⟨_,_,_,_,_,_,rfl⟩
  have f0:=hf 0 _ rfl;have f1:=hf 1 _ rfl;have f2:=hf 2 _ rfl;have f3:=hf 3 _ rfl;have f4:=hf 4 _ rfl;have f5:=hf 5 _ rfl;simp only[List.getElem?_cons_zero,List.getElem?_cons_succ]at f0 f1 f2 f3 f4 f5;obtain⟨r,e0,_,_⟩:=DataW.trod_int Try.underlying40 f0;have e0':c0=.int .i64 r:=by injection e0
  subst e0';simp only[Rows.uptoBulk,Rows.uptoBulkAll,List.map_cons,List.map_nil]at hw;obtain⟨l1,r1,z1⟩:=pI (v:=c1) Try.underlying41 (n:=Rows.uptoBulk x1.1) (by omega) ⟨x1,f1,rfl⟩;obtain⟨l2,r2,-⟩:=pI (v:=c2) Try.underlying41 (n:=Rows.uptoBulk x2.1) (by omega) ⟨x2,f2,rfl⟩;obtain⟨l3,r3⟩:=aL4 (v:=c3) Try.underlying42 (n:=Rows.uptoBulk x3.1) (by omega) ⟨x3,f3,rfl⟩;obtain⟨l4,r4,-⟩:=pI (v:=c4) Try.underlying43 (n:=Rows.uptoBulk x4.1) (by omega) ⟨x4,f4,rfl⟩;obtain⟨c,r5,g5,z5⟩:=aA3 (v:=c5) (n:=Rows.uptoBulk x5.1) (by omega) ⟨x5,f5,rfl⟩;refine⟨⟨r,l1,l2,l3,l4,c⟩,λj=>[Value.int .i64 r,c1,c2,c3,c4,c5][j]?.getD undef,λj hj=>?_,λj hj=>?_,g5,?_,?_⟩
  . rw[hc j hj];exact uW _ _ _ (by simpa using hj)
  . match j,hj with
    | 0,_=>exact .leaf _
    | 1,_=>exact r1
    | 2,_=>exact r2
    | 3,_=>exact r3
    | 4,_=>exact r4
    | 5,_=>exact r5
  . show aR c<=n;omega
  show l1.length<=n;omega
 exact⟨xs,hxs,λc hc=>by obtain⟨i,hi,rfl⟩:=List.mem_iff_getElem.1 hc;exact hq i hi,by omega⟩
end
theorem oQ {W:World} {base:Nat} {t e:TypeId} {v:Value} (hu:Try.prog.underlying t=some (.slice e))(h:Value.okWide Try.prog W .any base t v):v.cells.toList=[v]:=by
 unfold Value.okWide at h;rw[hu]at h;simp only[Cell.okWide,hu,Cell.ok]at h;cases v <;> first | rfl | exact h.elim | (simp at h)
theorem mX {H:Type} {enc:TypeId × Value->H} {W:World} {base:Nat} {v:Value} {d:DataW H} {ps:List MemPlace} (hval:Value.okWide Try.prog W .any base 28 v)(h:DataW.Trod enc Try.prog W 0 (λ_=>true) true 28 v d ps)
 (hz:Rows.uptoBulk d<=1048576):∃cs:List Cl,Rd W W.heap.size (eY cs) v/\(∀c∈cs,(∀x∈c,kX x=true)/\aR c<=1048576)/\cs.length<=1048576:=by
 obtain⟨fuel,hf⟩:=h;rw[oQ Try.underlying28 hval]at hf;obtain⟨cs,h1,h2,h3⟩:=aI5 hz ⟨_,hf,rfl⟩;exact⟨cs,h1,λc hc=>⟨(h2 c hc).1,Nat.le_trans (h2 c hc).2 hz⟩,Nat.le_trans h3 hz⟩
theorem mZ {H:Type} {enc:TypeId × Value->H} {W:World} {base:Nat} {v:Value} {d:DataW H} {ps:List MemPlace} (hval:Value.okWide Try.prog W .any base 29 v)(h:DataW.Trod enc Try.prog W 0 (λ_=>true) true 29 v d ps)
 (hz:Rows.uptoBulk d<=1048576):∃l:List Sp,Rd W W.heap.size (gO l) v/\StepOk l/\(∀s∈l,aR s.clause<=1048576)/\l.length<=1048576:=by
 obtain⟨fuel,hf⟩:=h;rw[oQ Try.underlying29 hval]at hf;obtain⟨l,h1,h2,h3⟩:=aI6 hz ⟨_,hf,rfl⟩;exact⟨l,h1,⟨λq hq=>(h2 q hq).1,λq hq=>by have:=(h2 q hq).2.1;omega,λq hq=>by have:=(h2 q hq).2.2;omega⟩,λs hs=>by have:=(h2 s hs).2.1;omega,by omega⟩
/-! ## Behind the call -/
section
variable {H:Type} {enc:TypeId × Value->H} {W W':World}
theorem lG:∀{ts:List TypeId} {vs:List Value} {ds:List (DataW H)} {ps:List MemPlace},laidOutB Try.prog=true->(∀t∈ts,Try.prog.readableRec t=true/\t<Try.prog.types.size)->
 DataW.TrodAll enc Try.prog W 0 (λ_=>true) true ts vs ds ps->(∀x∈ps,x.block<W.heap.size)->Below W.heap.size W W'->DataW.TrodAll enc Try.prog W' 0 (λb=>decide (b<W.heap.size)) true ts vs ds ps
 | [],vs,ds,ps,_,_,h,_,_=>by
  cases vs <;> cases ds <;> exact h
 | t::ts,vs,ds,ps,hl,ht,h,hlt,hb=>by
  obtain⟨v,vs',d,ds',p,q,rfl,rfl,rfl,hd,hr⟩:=trodAll_cons h;have ht1:=ht t (List.mem_cons_self ..);exact⟨p,q,Below.trod hl ht1.1 ht1.2 hd hb (λx hx=>hlt x (List.mem_append_left _ hx)),lG hl (λu hu=>ht u (List.mem_cons_of_mem _ hu)) hr (λx hx=>hlt x (List.mem_append_right _ hx)) hb,rfl⟩
theorem wT {fn:Func} {s:ChangeSpec} {args:Array Value} {ds gs:List (DataW H)} {before:List MemPlace} (hres:fn.resultTypes= #[4])(hv:s.vars=[])(hro:∀t∈fn.params.toList,Try.prog.readableRec t=true/\t<Try.prog.types.size)
 (hl:laidOutB Try.prog=true) (hs:s.fn H (ds++gs)={results:=[.lit (.bool true)],args:=ds}) (hW:DataW.Whole enc Try.prog fn.params.toList s.vars false W args.toList ds gs before) (hb:Below W.heap.size W W'):
 s.post enc Try.prog fn false true false false W args (.bool true) W':=by
 have hlt:=hW.lt;have hW':=hW;obtain⟨p,q,hA,hV,rfl,_,_⟩:=hW';refine⟨ds,gs,p++q,[],p,[],hW,?_,?_,?_,hb.frame _,λh=>by cases h⟩
 . rw[hres,hs];exact trodAll_mk1 (shut_bool Try.underlying4 _)
 . rw[hs];exact lG hl hro hA (λx hx=>hlt x (List.mem_append_left _ hx)) hb
 rw[hs,hv];exact rfl
end
end Go.Proofs.Ytiaoabfndnidiaa
namespace Go.Proofs.Ytiaoabfndnidiaa
open Go.RowKit
def zR (inp:List Cl)(ps:List Sp)(at_ err:Int):Prop:=
 (∃k,k<ps.length/\(∀j,j<k->dO inp ps (j:Nat)=true)/\dO inp ps (k:Nat)=false/\at_=(k:Nat)/\err=400)\/
 ((∀j,j<ps.length->dO inp ps (j:Nat)=true)/\at_=0/\err=(match ps.getLast? with | none=>401 | some s=>if s.clause.length=0 then 0 else 401))
def aO7 (inp:List Cl)(ps:List Sp)(w:World)(e:Ending)(w':World):Prop:=
 Below w.heap.size w w'/\∃at_ err:Int,e=.returned (.tuple #[.int .i64 at_,.int .i64 err])/\zR inp ps at_ err
theorem oE (inp:List Cl)(ps:List Sp)(vi vp:Value)(B:Nat)(w:World)(hi:Rd w B (eY inp) vi)(hp:Rd w B (gO ps) vp)(hB:B<=w.heap.size)(hok:StepOk ps):
 Calls Try.prog 24 #[vi,vp] w (aO7 inp ps w):=by
 obtain⟨Ai,ci,rfl,-,-,-⟩:=Rd.row_form (show Rd w B (.sl 1 (inp.map λc=>[aT c])) vi from hi);obtain⟨Ap,cp,rfl,hp1,hp2,hp3⟩:=Rd.row_form (show Rd w B (.sl 6 (ps.map eZ)) vp from hp);have Hi:=Lh hi;have Hp:=Lh hp;have Hok:=Lh hok;clear hi hp hok;go_enter Try.func24,Try.ntmps24;go_upto_region 2 with fail
 have hx1:aL w.heap.size 66 (.slice Ai inp.length ci) (.slice Ap ps.length cp) (w.alloc (.cells #[.slice Ai inp.length ci,.slice Ap ps.length cp] 66)):=heap_alloc_new w _;have hB1:=aD w (.cells #[.slice Ai inp.length ci,.slice Ap ps.length cp] 66);generalize w.alloc (.cells #[.slice Ai inp.length ci,.slice Ap ps.length cp] 66)=w1 at hx1 hB1 ⊢;have hz1:=hB1.size;have HX1:=Lh hx1;have HB1:=Lh hB1;clear hx1 hB1;go_upto_region 3 with fail
 go_loopw [13] (λi wr=>∃k:Nat,k<=ps.length/\i=.int .i64 k/\(∀j,j<k->dO inp ps (j:Nat)=true)/\Below w1.heap.size w1 wr) (λi _=>ps.length-(intOf i).toNat)
 case atStart=>exact⟨0,Nat.zero_le _,rfl,λj hj=>by omega,Below.refl _ _⟩
 obtain⟨k,hk,rfl,hall,hup⟩:=hrel;have Hall:=Lh hall;have Hup:=Lh hup;have hzr:=hup.size;clear hall hup;have hlow:Below w.heap.size w wr:=HB1.out.trans (Hup.out.mono hz1);have Hlow:=Lh hlow;clear hlow;obtain⟨y0,y1,-⟩:=(HX1.out.low Hup.out).cells;by_cases hlt:k<ps.length
 . have hst:=rK inp ps k _ _ B wr (Hi.out.low Hlow.out hB) (Hp.out.low Hlow.out hB) (by omega) hlt Hok.out;obtain⟨b,hb⟩:∃b,dO inp ps (k:Nat)=b:=⟨_,rfl⟩;rw[hb]at hst;have Hst:=Lh hst;have Hb:=Lh hb;clear hst hb;cases b with
   | false=>
    go_wp2_with (
     go_at_call 23
     refine Hst.out.mono ?_;rintro e w2 ⟨rfl,hb2⟩)
    refine bodyPost_ret (v:=.tuple #[.int .i64 k,.int .i64 400]) (by simp[results,Try.results24,go_sem]) rfl ?_;exact⟨Hlow.out.trans (hb2.mono Hlow.out.size),_,_,rfl,.inl ⟨k,hlt,Hall.out,Hb.out,rfl,rfl⟩⟩
   | true=>
    go_wp2_with (
     go_at_call 23
     refine Hst.out.mono ?_;rintro e w2 ⟨rfl,hb2⟩)
    go_roundw
    case rel=>
     refine⟨k+1,by omega,by go_num,λj hj=>?_,Hup.out.trans (hb2.mono hzr)⟩;by_cases hjk:j=k
     . subst hjk;exact Hb.out
     exact Hall.out j (by omega)
    case measure=>simp[intOf];omega
 have hke:k=ps.length:=by omega
 have hal:∀j,j<ps.length->dO inp ps (j:Nat)=true:=λj hj=>Hall.out j (by omega)
 have Hal:=Lh hal;subst hke;clear hal Hall y0 y1 hk hlt;by_cases h0:ps=[]
 . have h0':(ps.length:Int)=0:=by rw[h0];rfl
   go_wp2_with fail;refine bodyPost_ret (v:=.tuple #[.int .i64 0,.int .i64 401]) (by simp[results,Try.results24,go_sem]) rfl ?_;refine⟨Hlow.out,_,_,rfl,.inr ⟨Hal.out,rfl,?_⟩⟩;rw[h0];rfl
 obtain⟨m,s,hml,hms,hlen,hla⟩:∃m s,∃h:m<ps.length,ps[m]=s/\ps.length=m+1/\ps.getLast? =some s:=by
  have hp0:0<ps.length:=List.length_pos_iff.2 h0;refine⟨ps.length-1,_,by omega,rfl,by omega,?_⟩;rw[List.getLast?_eq_getElem?,List.getElem?_eq_getElem (by omega)]
 obtain⟨pb,po,u1,u2,u3,u4,u5,rfl,hpb,-,-,-,-,-,p5,hsn⟩:=(Hp.out.low Hlow.out hB).sp_at hml;rw[hms]at hsn;obtain⟨-,-,-,-,-,-,-,-,A6,c6,-,-,-,-,rfl,-⟩:=hsn.forms;have Hla:=Lh hla;have h0':¬((ps.length:Int)=0):=by omega
 have hm1:(ps.length:Int)-1=(m:Int):=by omega
 have hm3:¬((ps.length:Int)<=(m:Int)):=by omega
 clear hsn hla hlen hms;by_cases hc:s.clause.length=0
 . have hc':¬(0<(s.clause.length:Int)):=by omega
   go_wp2_with fail;refine bodyPost_ret (v:=.tuple #[.int .i64 0,.int .i64 0]) (by simp[results,Try.results24,go_sem]) rfl ?_;refine⟨Hlow.out,_,_,rfl,.inr ⟨Hal.out,rfl,?_⟩⟩;rw[Hla.out];exact(if_pos hc).symm
 have hc':0<(s.clause.length:Int):=by omega
 go_wp2_with fail;refine bodyPost_ret (v:=.tuple #[.int .i64 0,.int .i64 401]) (by simp[results,Try.results24,go_sem]) rfl ?_;refine⟨Hlow.out,_,_,rfl,.inr ⟨Hal.out,rfl,?_⟩⟩;rw[Hla.out];exact(if_neg hc).symm
def yD (n:Int)(w:World)(e:Ending)(w':World):Prop:=e=.returned (.int .i64 n)/\Below w.heap.size w w'
theorem iM (d:Nat):∀(f:Int) (xs:List Tm) (v2:Value) (B:Nat) (w:World),aI xs<d->aI xs<=10000000000->Rd w B (.sl 2 (aH xs)) v2->B<=w.heap.size->
 Calls Try.prog 18 #[.agg #[.int .i64 f,v2]] w (yD (aI xs+1:Nat) w):=by
 induction d with
 | zero=>intro f xs v2 B w h;omega
 | succ d ih=>
 intro f xs v2 B w hd hz hr hB;obtain⟨A,c,rfl,hc,hn,hm⟩:=hr.tm_form;have H3:=Lh hr;have Hih:=Lh ih;clear hr ih;go_enter Try.func18,Try.ntmps18;go_wp2_with fail;go_loopw [3,4] (λn i wr=>∃k:Nat,k<=xs.length/\i=.int .i64 k/\n=.int .i64 ((aI (xs.take k)+1:Nat):Int)/\Below w.heap.size w wr/\wr.heap[w.heap.size]? =some (Obj.cells #[Value.int .i64 f,Value.slice A xs.length c] 51 (0,0))) (λ_ i _=>xs.length-(intOf i).toNat)
 case atStart=>exact⟨0,Nat.zero_le _,rfl,rfl,aD w _,heap_alloc_new w _⟩
 obtain⟨k,hk,rfl,rfl,hbel,hown⟩:=hrel;have hsz:=eA hown;have hown2:=λo=>cell_of_row wr w.heap.size o _ _ _ hown
 have Hown:=Lh hown;have Hbel:=Lh hbel;clear hown hbel;by_cases hlt:k<xs.length
 . obtain⟨ab,off,f',ys,A2,c2,rfl,hxk,hb,c0,c1,hrd⟩:=(H3.out.low Hbel.out hB).tm_at hlt;have h1:=aZ hlt;have h2:=iB hlt;have h3:=fB xs (k+1);rw[hxk]at h1 h2;simp only[aK]at h1 h2;have Hr:=Lh hrd;clear hxk hrd;go_wp2_with (
    go_at_call 18
    refine(Hih.out f' ys _ _ _ (by omega) (by omega) Hr.out (by have:=Hbel.out.size;omega)).mono ?_;rintro e w1 ⟨rfl,hb1⟩)
   go_roundw
   case rel=>
    have hb2:Below wr.heap.size wr w1:=(by exact hb1);refine⟨k+1,by omega,by go_num,?_,Hbel.out.trans (hb2.mono (by omega)),?_⟩
    . rw[h2];congr 1;omega
    rw[hb2.block _ hsz];exact Hown.out
   case measure=>simp[intOf];omega
 have e:xs.take k=xs:=List.take_of_length_le (by omega);rw[e];go_wp2_with fail;go_ret;exact⟨rfl,Hbel.out⟩
mutual
def fM (most:Int):Tm->Bool
 | .mk f xs=>if f<0 then decide (-most<=f)&&decide (xs.length=0)else lD most xs
def lD (most:Int):List Tm->Bool
 | []=>true
 | x::xs=>fM most x&&lD most xs
end
theorem kP (m:Int):∀xs:List Tm,lD m xs=xs.all (fM m)
 | []=>by rw[lD];rfl
 | x::xs=>by rw[lD,kP m xs];rfl
structure Sy where
 name:ByteArray
 ar:Int
 pr:Bool
def fZ (s:Sy):List Tr:=[.leaf (.string s.name),.leaf (.int .i64 s.ar),.leaf (.bool s.pr)]
def fX (l:List Sy):Tr:=.sl 3 (l.map fZ)
def iX (l:List (List Int)):Tr:=.sl 1 (l.map λr=>[bM r])
theorem Rd.sy_at {w:World} {B k n c:Nat} {A:Option Addr} {l:List Sy} (h:Rd w B (fX l) (.slice A n c))(hk:k<l.length):
 ∃ab off,A=some ⟨ab,off,none⟩/\ab<B/\w.cell? ⟨ab,off+k*3,none⟩=some (.string l[k].name)/\w.cell? ⟨ab,off+k*3+1,none⟩=some (.int .i64 l[k].ar)/\w.cell? ⟨ab,off+k*3+2,none⟩=some (.bool l[k].pr):=by
 unfold fX at h;obtain⟨ab,off,us,hA,hb,hc,hr⟩:=h.at_ (k:=k) (by simpa using hk);have hrow:(l.map fZ)[k]'(by simpa using hk)=fZ l[k]:=by simp
 have h0:=hr 0 (by rw[hrow];simp[fZ]);have h1:=hr 1 (by rw[hrow];simp[fZ]);have h2:=hr 2 (by rw[hrow];simp[fZ]);simp only[hrow,fZ,List.getElem_cons_zero,List.getElem_cons_succ]at h0 h1 h2;have e0:=h0.leaf_inv;have e1:=h1.leaf_inv;have e2:=h2.leaf_inv;refine⟨ab,off,hA,hb,?_,?_,?_⟩
 . rw[<-e0,<-hc 0 (by omega),Nat.add_zero]
 . rw[<-e1,<-hc 1 (by omega)]
 rw[<-e2,<-hc 2 (by omega)]
theorem Rd.tab_at {w:World} {B k n c:Nat} {A:Option Addr} {l:List (List Int)} (h:Rd w B (iX l) (.slice A n c))(hk:k<l.length):
 ∃ab off A2 c2,A=some ⟨ab,off,none⟩/\ab<B/\w.cell? ⟨ab,off+k,none⟩=some (.slice A2 l[k].length c2)/\Rd w B (bM l[k]) (.slice A2 l[k].length c2):=by
 unfold iX at h;obtain⟨ab,off,us,hA,hb,hc,hr⟩:=h.at_ (k:=k) (by simpa using hk);have h0:=hr 0 (by simp);simp only[List.getElem_map,List.getElem_cons_zero]at h0;have:=hc 0 (by omega);obtain⟨A2,c2,e2,_⟩:=Rd.row_form (show Rd w B (.sl 1 (l[k].map λn=>[.leaf (.int .i64 n)])) _ from h0);exact⟨ab,off,A2,c2,hA,hb,by rw[<-e2,<-this];simp,by rw[<-e2];exact h0⟩
theorem tO (n k:Nat)(w:World)(hz:∀j,j<=k->n ^ j<=1000000000000)(hk:k<=1000)(hn:n<=1000000):
 Calls Try.prog 22 #[.int .i64 (n:Nat),.int .i64 (k:Nat)] w (yD ((n ^ k:Nat):Int) w):=by
 have Hz:=Lh hz;clear hz;go_enter Try.func22,Try.ntmps22;go_wp2_with fail;go_loopw [5,6] (λp i wr=>∃j q:Nat,j<=k/\i=.int .i64 j/\p=.int .i64 q/\q=n ^ j/\Below w.heap.size w wr) (λ_ i _=>k-(intOf i).toNat)
 case atStart=>exact⟨0,1,Nat.zero_le _,rfl,rfl,by simp,Below.refl _ _⟩
 obtain⟨j,q,hj,rfl,rfl,hq,hbel⟩:=hrel;have Hq:=Lh hq;have Hbel:=Lh hbel;clear hq hbel;by_cases hlt:j<k
 . have h1:=Hz.out (j+1) (by omega);have h2:n ^ (j+1)=q*n:=by rw[Nat.pow_succ,<-Hq.out]
   rw[h2]at h1;have h3:IntKind.i64.wrap ((q:Int)*(n:Int))=((q*n:Nat):Int):=by rw[<-Int.natCast_mul];exact IntWalk.i64_in _ (by omega)
   have H2:=Lh h2;clear h2;go_wp2_with fail;go_roundw
   case rel=>exact⟨j+1,q*n,by omega,by go_num,by first | rfl | (rw[h3]) | simp[h3],H2.out.symm,Hbel.out⟩
   case measure=>simp[intOf];omega
 obtain rfl:j=k:=by omega
 go_wp2_with fail;go_ret;refine⟨?_,Hbel.out⟩;show Ending.returned (.int .i64 (q:Nat))=_
 rw[Hq.out]
end Go.Proofs.Ytiaoabfndnidiaa
namespace Go.Proofs.Ytiaoabfndnidiaa
open Go.RowKit Go.ChangeShapes Go.WideShapes Go.ChangeAt
section
variable {H:Type} {enc:TypeId × Value->H} {w:World}
theorem aI7 {fuel n:Nat} {v:Value} (hn:n<=1048576)(h:iH enc w 22 [v] fuel n):∃l:List Sy,Rd w w.heap.size (fX l) v/\l.length<=n:=by
 rcases h.slice Try.underlying22 (size:=3) (by kernel_rfl) (by omega) hn with⟨⟨A,rfl⟩,hp⟩ | ⟨b,off,len,cap,m,bl,rfl,rfl,h1,h2,h3,h4,h5,h6,h8,h7⟩
 . exact⟨[],Rd.nil_ A,by simp⟩
 obtain⟨xs,hxs,hxl,hq⟩:=hH (Q:=λ_ (_:Sy)=>True) fZ (λ_=>rfl) h1 h2 h3 h4 λi hi=>by
  obtain⟨cs,hl,hc,x,hx,hw⟩:=h7 i (by omega);obtain⟨c0,c1,c2,rfl⟩:∃c0 c1 c2,cs=[c0,c1,c2]:=by
   match cs,hl with
   | [c0,c1,c2],_=>exact⟨_,_,_,rfl⟩
  obtain⟨xs,m,rfl,rfl,_,hxl,hf⟩:=DataW.trod_struct Try.underlying60 hx;obtain⟨x0,x1,x2,rfl⟩:∃x0 x1 x2,xs=[x0,x1,x2]:=by
   match xs,hxl with
   | [x0,x1,x2],_=>exact⟨_,_,_,rfl⟩
  have f0:=hf 0 _ rfl;have f1:=hf 1 _ rfl;have f2:=hf 2 _ rfl;simp only[List.getElem?_cons_zero,List.getElem?_cons_succ]at f0 f1 f2;obtain⟨s0,e0,_,_⟩:=DataW.trod_string Try.underlying9 f0;have e0':c0=.string s0:=by injection e0
  subst e0';obtain⟨k,e1,_,_⟩:=DataW.trod_int Try.underlying3 f1;have e1':c1=.int .i64 k:=by injection e1
  subst e1';obtain⟨p,e2,_⟩:=DataW.trod_bool Try.underlying4 f2;have e2':c2=.bool p:=by injection e2
  subst e2';refine⟨⟨s0,k,p⟩,λj=>[Value.string s0,Value.int .i64 k,Value.bool p][j]?.getD undef,λj hj=>?_,λj hj=>?_,trivial⟩
  . rw[hc j hj];exact uW _ _ _ (by simpa using hj)
  match j,hj with
  | 0,_=>exact .leaf _
  | 1,_=>exact .leaf _
  | 2,_=>exact .leaf _
 exact⟨xs,hxs,by omega⟩
theorem aE2 {fuel n:Nat} {v:Value} (hn:n<=1048576)(h:iH enc w 25 [v] fuel n):∃l:List (List Int),Rd w w.heap.size (iX l) v/\l.length<=n/\(∀r∈l,r.length<=n):=by
 rcases h.slice Try.underlying25 (size:=1) (by kernel_rfl) (by omega) hn with⟨⟨A,rfl⟩,hp⟩ | ⟨b,off,len,cap,m,bl,rfl,rfl,h1,h2,h3,h4,h5,h6,h8,h7⟩
 . exact⟨[],Rd.nil_ A,by simp,by simp⟩
 obtain⟨xs,hxs,hxl,hq⟩:=hH (Q:=λ_ (r:List Int)=>r.length<=n) (λr=>[bM r]) (λ_=>rfl) h1 h2 h3 h4 λi hi=>by
  obtain⟨cs,hl,hc,hr⟩:=h7 i (by omega);have hbi:=fO (bl:=bl) (i:=i) (by omega);obtain⟨c0,rfl⟩:∃c0,cs=[c0]:=by
   match cs,hl with
   | [c0],_=>exact⟨_,rfl⟩
  obtain⟨r,hrd,hz⟩:=pI Try.underlying41 (by omega) hr;refine⟨r,λ_=>c0,λj hj=>?_,λj hj=>?_,by omega⟩
  . have hj0:j=0:=(by have:j<1:=hj;omega);subst hj0;exact hc 0 (by omega)
  have hj0:j=0:=by simp at hj;omega
  subst hj0;exact hrd
 exact⟨xs,hxs,by omega,λr hr=>by obtain⟨i,hi,rfl⟩:=List.mem_iff_getElem.1 hr;exact hq i hi⟩
end
theorem mY {H:Type} {enc:TypeId × Value->H} {W:World} {base:Nat} {v:Value} {d:DataW H} {ps:List MemPlace} (hval:Value.okWide Try.prog W .any base 24 v)(h:DataW.Trod enc Try.prog W 0 (λ_=>true) true 24 v d ps)
 (hz:Rows.uptoBulk d<=1048576):∃(v1:Value) (l:List Sy),v=.agg #[v1]/\Rd W W.heap.size (fX l) v1/\l.length<=1048576:=by
 obtain⟨cs,rfl,hcs⟩:=okWide_struct Try.underlying24 hval;have hcs:cs.size=1:=hcs;obtain⟨v1,rfl⟩:∃v1,cs= #[v1]:=by
  match cs,hcs with
  | ⟨[v1]⟩,_=>exact⟨v1,rfl⟩
 obtain⟨fuel,hf⟩:=h;have hf:DataW.trod enc Try.prog W 0 (λ_=>true) true fuel 24 [v1]=some (d,ps):=hf;obtain⟨xs,m,rfl,hd,_,hxl,hf⟩:=DataW.trod_struct Try.underlying24 hf;obtain⟨x0,rfl⟩:∃x0,xs=[x0]:=by
  match xs,hxl with
  | [x0],_=>exact⟨_,rfl⟩
 have f0:=hf 0 _ rfl;simp only[List.getElem?_cons_zero]at f0;have hd1:d=.agg [x0.1]:=by have:=congrArg Prod.fst hd;simpa using this
 subst hd1;simp only[Rows.uptoBulk,Rows.uptoBulkAll,List.map_cons,List.map_nil]at hz;obtain⟨l,hl,hn⟩:=aI7 (n:=Rows.uptoBulk x0.1) (by omega) ⟨x0,f0,rfl⟩;exact⟨v1,l,rfl,hl,by omega⟩
theorem kC {H:Type} {enc:TypeId × Value->H} {W:World} {base:Nat} {v:Value} {d:DataW H} {ps:List MemPlace} (hval:Value.okWide Try.prog W .any base 27 v)(h:DataW.Trod enc Try.prog W 0 (λ_=>true) true 27 v d ps)
 (hz:Rows.uptoBulk d<=1048576):∃(n:Int) (v1:Value) (l:List (List Int)),v=.agg #[.int .i64 n,v1]/\Rd W W.heap.size (iX l) v1/\l.length<=1048576/\(∀r∈l,r.length<=1048576):=by
 obtain⟨cs,rfl,hcs⟩:=okWide_struct Try.underlying27 hval;have hcs:cs.size=2:=hcs;obtain⟨v0,v1,rfl⟩:∃v0 v1,cs= #[v0,v1]:=by
  match cs,hcs with
  | ⟨[v0,v1]⟩,_=>exact⟨v0,v1,rfl⟩
 obtain⟨fuel,hf⟩:=h;have hf:DataW.trod enc Try.prog W 0 (λ_=>true) true fuel 27 [v0,v1]=some (d,ps):=hf;obtain⟨xs,m,rfl,hd,_,hxl,hf⟩:=DataW.trod_struct Try.underlying27 hf;obtain⟨x0,x1,rfl⟩:∃x0 x1,xs=[x0,x1]:=by
  match xs,hxl with
  | [x0,x1],_=>exact⟨_,_,rfl⟩
 have f0:=hf 0 _ rfl;have f1:=hf 1 _ rfl;simp only[List.getElem?_cons_zero,List.getElem?_cons_succ]at f0 f1;obtain⟨n,e0,_,_⟩:=DataW.trod_int Try.underlying3 f0;have e0':v0=.int .i64 n:=by injection e0
 subst e0';have hd1:d=.agg [x0.1,x1.1]:=by have:=congrArg Prod.fst hd;simpa using this
 subst hd1;simp only[Rows.uptoBulk,Rows.uptoBulkAll,List.map_cons,List.map_nil]at hz;obtain⟨l,hl,hn,hr⟩:=aE2 (n:=Rows.uptoBulk x1.1) (by omega) ⟨x1,f1,rfl⟩;exact⟨n,v1,l,rfl,hl,by omega,λr h=>by have:=hr r h;omega⟩
end Go.Proofs.Ytiaoabfndnidiaa
namespace Go.Proofs.Ytiaoabfndnidiaa
open Go.RowKit
inductive EqvJ (rep:Nat->Nat)(st:List (Nat × Nat)):Nat->Nat->Prop
 | rep {a b:Nat} (h:rep a=rep b):EqvJ rep st a b
 | pair {a b:Nat} (h:(a,b)∈st):EqvJ rep st a b
 | symm {a b:Nat} (h:EqvJ rep st a b):EqvJ rep st b a
 | trans {a b c:Nat} (h:EqvJ rep st a b) (k:EqvJ rep st b c):EqvJ rep st a c
theorem EqvJ.mono {rep rep':Nat->Nat} {st st':List (Nat × Nat)} (h1:∀a b,rep a=rep b->EqvJ rep' st' a b)(h2:∀a b,(a,b)∈st->EqvJ rep' st' a b) {a b:Nat} (h:EqvJ rep st a b):EqvJ rep' st' a b:=by
 induction h with
 | rep h=>exact h1 _ _ h
 | pair h=>exact h2 _ _ h
 | symm _ ih=>exact ih.symm
 | trans _ _ ih1 ih2=>exact ih1.trans ih2
theorem EqvJ.nil {rep:Nat->Nat} {a b:Nat} (h:EqvJ rep [] a b):rep a=rep b:=by
 induction h with
 | rep h=>exact h
 | pair h=>cases h
 | symm _ ih=>exact ih.symm
 | trans _ _ ih1 ih2=>exact ih1.trans ih2
structure JInv (T:List Tm)(As:List (List Nat))(rep:Nat->Nat)(st:List (Nat × Nat)):Prop where
 idem:∀n,rep (rep n)=rep n
 fn:∀n,0<=bT T n->bT T (rep n)=bT T n/\(bV As (rep n)).length=(bV As n).length/\∀(i u v:Nat),(bV As (rep n))[i]? =some u->(bV As n)[i]? =some v->EqvJ rep st u v
theorem aM1 {rep:Nat->Nat} {y x a b:Nat} (h:rep a=rep b):uni rep y x a=uni rep y x b:=by unfold uni;rw[h]
theorem xT {rep:Nat->Nat} {y x:Nat} (hi:∀n,rep (rep n)=rep n)(hx:rep x=x):∀n,uni rep y x (uni rep y x n)=uni rep y x n:=by
 intro n;unfold uni;by_cases h:rep n=y
 . rw[if_pos h,hx];split <;> rfl
 rw[if_neg h,hi n,if_neg h]
theorem EqvJ.uni {rep:Nat->Nat} {st st':List (Nat × Nat)} {a b y x u v:Nat} (hab:(rep a=y/\rep b=x)\/(rep a=x/\rep b=y))(hxx:rep x=x)(hst:∀p∈st,p∈st')(h:EqvJ rep ((a,b)::st) u v):EqvJ (uni rep y x) st' u v:=by
 refine h.mono (λ_ _ e=>.rep (aM1 e)) λc d e=>?_
 rcases List.mem_cons.1 e with e | e
 . injection e with e1 e2
   subst e1 e2;refine .rep ?_;unfold Go.Proofs.Ytiaoabfndnidiaa.uni;rcases hab with⟨h1,h2⟩ | ⟨h1,h2⟩
   . rw[if_pos h1,h2];split <;> rfl
   rw[if_pos h2,h1];split <;> rfl
 exact .pair (hst _ e)
theorem JInv.var {T:List Tm} {As:List (List Nat)} {rep:Nat->Nat} {st:List (Nat × Nat)} {a b y x:Nat} (h:JInv T As rep ((a,b)::st))(hab:(rep a=y/\rep b=x)\/(rep a=x/\rep b=y))(hy:bT T y<0):JInv T As (uni rep y x) st:=by
 have hxx:rep x=x:=by rcases hab with⟨_,h2⟩ | ⟨h1,_⟩;rw[<-h2,h.idem];rw[<-h1,h.idem]
 refine⟨xT h.idem hxx,λn hn=>?_⟩;obtain⟨h1,h2,h3⟩:=h.fn n hn;have hne:¬rep n=y:=λe=>by rw[e]at h1;omega
 have e:uni rep y x n=rep n:=by unfold uni;rw[if_neg hne]
 rw[e];exact⟨h1,h2,λi u v hu hv=>(h3 i u v hu hv).uni hab hxx (λ_ h=>h)⟩
theorem aM4 {l r:List Nat} (hlen:l.length=r.length) {i u v:Nat} (hu:l[i]? =some u)(hv:r[i]? =some v):(u,v)∈l.zip r:=by
 rw[List.mem_iff_getElem?];exact⟨i,by rw[List.getElem?_zip_eq_some];exact⟨hu,hv⟩⟩
theorem eR (T:List Tm)(As:List (List Nat)):∀(k:Nat) (st:List (Nat × Nat)) (rep rep':Nat->Nat),cS T As k st rep=(true,rep')->JInv T As rep st->JInv T As rep' []/\∀u v,EqvJ rep st u v->rep' u=rep' v
 | _,[],rep,rep',h,hi=>by
  rw[cS]at h;injection h with _ h
  subst h;exact⟨hi,λu v e=>e.nil⟩
 | 0,_::_,rep,rep',h,_=>by rw[cS]at h;cases h
 | k+1,(a,b)::st,rep,rep',h,hi=>by
  rw[cS]at h;by_cases e0:rep a=rep b
  . rw[if_pos e0]at h;have hm:∀u v,EqvJ rep ((a,b)::st) u v->EqvJ rep st u v:=λu v e=>e.mono (λ_ _ e=>.rep e) λc d e=>by
     rcases List.mem_cons.1 e with e | e
     . injection e with e1 e2;subst e1 e2;exact .rep e0
     exact .pair e
    obtain⟨h1,h2⟩:=eR T As k st rep rep' h ⟨hi.idem,λn hn=>by obtain⟨a1,a2,a3⟩:=hi.fn n hn;exact⟨a1,a2,λi u v hu hv=>hm _ _ (a3 i u v hu hv)⟩⟩;exact⟨h1,λu v e=>h2 u v (hm u v e)⟩
  rw[if_neg e0]at h;have ha:rep (rep a)=rep a:=hi.idem a;have hb:rep (rep b)=rep b:=hi.idem b;by_cases e1:bT T (rep a)<0/\bT T (rep b)<0
  . rw[if_pos e1]at h;split at h
    . obtain⟨h1,h2⟩:=eR T As k st _ rep' h (hi.var (.inl ⟨rfl,rfl⟩) e1.1);exact⟨h1,λu v e=>h2 u v (e.uni (.inl ⟨rfl,rfl⟩) hb λ_ h=>h)⟩
    obtain⟨h1,h2⟩:=eR T As k st _ rep' h (hi.var (.inr ⟨rfl,rfl⟩) e1.2);exact⟨h1,λu v e=>h2 u v (e.uni (.inr ⟨rfl,rfl⟩) ha λ_ h=>h)⟩
  rw[if_neg e1]at h;by_cases e2:bT T (rep a)<0
  . rw[if_pos e2]at h;obtain⟨h1,h2⟩:=eR T As k st _ rep' h (hi.var (.inl ⟨rfl,rfl⟩) e2);exact⟨h1,λu v e=>h2 u v (e.uni (.inl ⟨rfl,rfl⟩) hb λ_ h=>h)⟩
  rw[if_neg e2]at h;by_cases e3:bT T (rep b)<0
  . rw[if_pos e3]at h;obtain⟨h1,h2⟩:=eR T As k st _ rep' h (hi.var (.inr ⟨rfl,rfl⟩) e3);exact⟨h1,λu v e=>h2 u v (e.uni (.inr ⟨rfl,rfl⟩) ha λ_ h=>h)⟩
  rw[if_neg e3]at h;by_cases e4:bT T (rep a)≠bT T (rep b)\/(bV As (rep a)).length≠(bV As (rep b)).length
  . rw[if_pos e4]at h;cases h
  rw[if_neg e4]at h;have e5:bT T (rep a)=bT T (rep b)/\(bV As (rep a)).length=(bV As (rep b)).length:=by
   constructor
   . exact Classical.byContradiction λe=>e4 (.inl e)
   exact Classical.byContradiction λe=>e4 (.inr e)
  have hsub:∀p∈st,p∈((bV As (rep a)).zip (bV As (rep b))).reverse++st:=λp hp=>List.mem_append_right _ hp
  have hinv:JInv T As (uni rep (rep b) (rep a)) (((bV As (rep a)).zip (bV As (rep b))).reverse++st):=by
   refine⟨xT hi.idem ha,λn hn=>?_⟩;obtain⟨a1,a2,a3⟩:=hi.fn n hn;by_cases hnb:rep n=rep b
   . have e:uni rep (rep b) (rep a) n=rep a:=(by unfold uni;rw[if_pos hnb]);rw[e];rw[hnb]at a1 a2 a3;refine⟨by rw[e5.1,a1],by rw[e5.2,a2],λi u v hu hv=>?_⟩;have hil:i<(bV As (rep b)).length:=(by rw[a2];exact(List.getElem?_eq_some_iff.1 hv).1);obtain⟨z,hz⟩:∃z,(bV As (rep b))[i]? =some z:=⟨_,List.getElem?_eq_getElem hil⟩;exact(EqvJ.pair (List.mem_append_left _ (List.mem_reverse.2 (aM4 e5.2 hu hz)))).trans ((a3 i z v hz hv).uni (.inr ⟨rfl,rfl⟩) ha hsub)
   have e:uni rep (rep b) (rep a) n=rep n:=by unfold uni;rw[if_neg hnb]
   rw[e];exact⟨a1,a2,λi u v hu hv=>(a3 i u v hu hv).uni (.inr ⟨rfl,rfl⟩) ha hsub⟩
  obtain⟨h1,h2⟩:=eR T As k _ _ rep' h hinv;exact⟨h1,λu v e=>h2 u v (e.uni (.inr ⟨rfl,rfl⟩) ha hsub)⟩
mutual
def sA:Tm->Prop
 | .mk f xs=>(f<0->xs=[])/\mJ xs
def mJ:List Tm->Prop
 | []=>True
 | x::xs=>sA x/\mJ xs
end
mutual
inductive Laid (b:Nat)(S:JS):Nat->Tm->Prop
 | var (n:Nat) (f:Int) (hf:f<0) (hn:n<S.T.length) (hv:S.V f=some n):Laid b S n (.mk f [])
 | node (n:Nat) (f:Int) (xs:List Tm) (hf:¬f<0) (hb:b<=n) (hn:n<S.T.length) (ht:bT S.T n=f) (hs:LaidS b S (bV S.As n) xs):Laid b S n (.mk f xs)
inductive LaidS (b:Nat)(S:JS):List Nat->List Tm->Prop
 | nil:LaidS b S [] []
 | cons (n:Nat) (ns:List Nat) (x:Tm) (xs:List Tm) (h:Laid b S n x) (hs:LaidS b S ns xs):LaidS b S (n::ns) (x::xs)
end
structure Ext (s s':JS):Prop where
 len:s.T.length<=s'.T.length
 T:∀n,n<s.T.length->s'.T[n]? =s.T[n]?
 As:∀n,n<s.T.length->s'.As[n]? =s.As[n]?
 V:∀f n,s.V f=some n->s'.V f=some n
theorem Ext.refl (s:JS):Ext s s:=⟨Nat.le_refl _,λ_ _=>rfl,λ_ _=>rfl,λ_ _ h=>h⟩
theorem Ext.trans {a b c:JS} (h:Ext a b)(k:Ext b c):Ext a c:=
 ⟨Nat.le_trans h.len k.len,λn hn=>(k.T n (Nat.lt_of_lt_of_le hn h.len)).trans (h.T n hn),λn hn=>(k.As n (Nat.lt_of_lt_of_le hn h.len)).trans (h.As n hn),λf n e=>k.V f n (h.V f n e)⟩
theorem Ext.fn {s s':JS} (h:Ext s s') {n:Nat} (hn:n<s.T.length):bT s'.T n=bT s.T n:=by unfold bT;rw[h.T n hn]
theorem Ext.ar {s s':JS} (h:Ext s s') {n:Nat} (hn:n<s.T.length):bV s'.As n=bV s.As n:=by unfold bV;rw[h.As n hn]
structure ExtB (b:Nat)(s s':JS):Prop where
 len:s.T.length<=s'.T.length
 T:∀n,n<s.T.length->s'.T[n]? =s.T[n]?
 As:∀n,b<=n->n<s.T.length->s'.As[n]? =s.As[n]?
 V:∀f n,s.V f=some n->s'.V f=some n
theorem Ext.toB {s s':JS} (h:Ext s s')(b:Nat):ExtB b s s':=⟨h.len,h.T,λn _ hn=>h.As n hn,h.V⟩
mutual
theorem Laid.extB {b:Nat} {s s':JS} (h:ExtB b s s'):∀(x:Tm) (n:Nat),Laid b s n x->Laid b s' n x
 | .mk f xs,n,hl=>by
  cases hl with
  | var _ _ hf hn hv=>exact .var _ _ hf (Nat.lt_of_lt_of_le hn h.len) (h.V _ _ hv)
  | node _ _ _ hf hb hn ht hs=>
   refine .node _ _ _ hf hb (Nat.lt_of_lt_of_le hn h.len) ?_ ?_
   . unfold bT at ht ⊢;rw[h.T n hn];exact ht
   have e:bV s'.As n=bV s.As n:=by unfold bV;rw[h.As n hb hn]
   rw[e];exact LaidS.extB h xs _ hs
theorem LaidS.extB {b:Nat} {s s':JS} (h:ExtB b s s'):∀(xs:List Tm) (ns:List Nat),LaidS b s ns xs->LaidS b s' ns xs
 | [],ns,hl=>by cases hl;exact .nil
 | x::xs,ns,hl=>by
  cases hl with
  | cons n ns _ _ k ks=>exact .cons _ _ _ _ (Laid.extB h x n k) (LaidS.extB h xs ns ks)
end
mutual
theorem Laid.le {b b':Nat} {s:JS} (h:b'<=b):∀(x:Tm) (n:Nat),Laid b s n x->Laid b' s n x
 | .mk f xs,n,hl=>by
  cases hl with
  | var _ _ hf hn hv=>exact .var _ _ hf hn hv
  | node _ _ _ hf hb hn ht hs=>exact .node _ _ _ hf (Nat.le_trans h hb) hn ht (LaidS.le h xs _ hs)
theorem LaidS.le {b b':Nat} {s:JS} (h:b'<=b):∀(xs:List Tm) (ns:List Nat),LaidS b s ns xs->LaidS b' s ns xs
 | [],ns,hl=>by cases hl;exact .nil
 | x::xs,ns,hl=>by
  cases hl with
  | cons n ns _ _ k ks=>exact .cons _ _ _ _ (Laid.le h x n k) (LaidS.le h xs ns ks)
end
structure VOk (s:JS):Prop where
 fn:∀f n,s.V f=some n->bT s.T n=f/\f<0
 ar:∀n,bT s.T n<0->bV s.As n=[]
theorem fS {α:Type} (l:List α)(x:α) {n:Nat} (h:n<l.length):(l++[x])[n]? =l[n]? :=List.getElem?_append_left h
theorem kN (l:List Tm)(x:Tm):bT (l++[x]) l.length=x.fn:=by unfold bT;rw[List.getElem?_append_right (Nat.le_refl _),Nat.sub_self];rfl
theorem aK9 (l:List (List Nat))(x:List Nat) {n:Nat} (h:n=l.length):bV (l++[x]) n=x:=by unfold bV;rw[h,List.getElem?_append_right (Nat.le_refl _),Nat.sub_self];rfl
theorem zW {s:JS} (h:s.Ok)(f:Int)(xs:List Tm)(V:Int->Option Nat)(hV:∀y n,s.V y=some n->V y=some n):Ext s ⟨s.T++[.mk f xs],s.As++[[]],s.Ps++[s.T.length],V⟩:=
 ⟨by simp,λn hn=>fS _ _ hn,λn hn=>fS _ _ (by rw[h.a];exact hn),hV⟩
mutual
theorem mH:∀(t:Tm) (s:JS),s.Ok->Ext s (cD t s).2
 | .mk f xs,s,h=>by
  rw[cD];split
  . exact Ext.refl s
  rename_i hn
  split
  . rename_i hf
    rw[if_pos hf]at hn;refine zW h f xs _ λy n hy=>?_
    by_cases e:y=f
    . rw[e,hn]at hy;cases hy
    simp only[if_neg e];exact hy
  have h0:=(iU h f xs);have k:=fH xs _ h0;have k0:=zW h f xs s.V (λ_ _ e=>e);have kk:=k0.trans k;refine⟨kk.len,kk.T,λn hn=>?_,kk.V⟩;show (List.set _ s.T.length _)[n]? =_
  rw[List.getElem?_set_ne (by omega)];exact kk.As n hn
theorem fH:∀(xs:List Tm) (s:JS),s.Ok->Ext s (aX xs s).2
 | [],s,_=>Ext.refl s
 | x::xs,s,h=>by
  rw[aX];exact(mH x s h).trans (fH xs _ (eW x s h).1)
theorem iU {s:JS} (h:s.Ok)(f:Int)(xs:List Tm):(⟨s.T++[.mk f xs],s.As++[[]],s.Ps++[s.T.length],s.V⟩:JS).Ok:=
 ⟨
  by simp[h.a],by simp[h.p],λx n e=>by have:=h.v x n e;simp;omega,λl hl n hn=>by
  rcases List.mem_append.1 hl with hl | hl
  . have:=h.ax l hl n hn;simp;omega
  rw[List.mem_singleton.1 hl]at hn;cases hn⟩
end
theorem aP0 {l:List Tm} {n:Nat} (h:bT l n<0):n<l.length:=by
 unfold bT at h;cases e:l[n]? with
 | none=>rw[e]at h;simp at h
 | some x=>exact(List.getElem?_eq_some_iff.1 e).1
theorem VOk.new {s:JS} (hs:s.Ok)(h:VOk s)(f:Int)(xs:List Tm)(V:Int->Option Nat)(hV:∀y n,V y=some n->s.V y=some n\/y=f/\n=s.T.length/\f<0):VOk ⟨s.T++[.mk f xs],s.As++[[]],s.Ps++[s.T.length],V⟩:=by
 refine⟨λy n hy=>?_,λn hn=>?_⟩
 . rcases hV y n hy with h' | ⟨rfl,rfl,hf⟩
   . obtain⟨a,b⟩:=h.fn y n h';refine⟨?_,b⟩;have hn:n<s.T.length:=hs.v y n h';unfold bT at a ⊢;rw[fS _ _ hn];exact a
   exact⟨kN s.T (.mk y xs),hf⟩
 have hl:=aP0 hn;simp only[List.length_append,List.length_singleton]at hl;by_cases e:n<s.T.length
 . have:bT s.T n<0:=by unfold bT at hn ⊢;rw[fS _ _ e]at hn;exact hn
   have:=h.ar n this;unfold bV at this ⊢;rw[fS _ _ (by rw[hs.a];exact e)];exact this
 exact aK9 _ _ (by rw[hs.a];omega)
mutual
theorem gG:∀(t:Tm) (s:JS),sA t->s.Ok->VOk s->VOk (cD t s).2/\Laid s.T.length (cD t s).2 (cD t s).1 t
 | .mk f xs,s,hc,hs,hv=>by
  rw[sA]at hc;rw[cD];split
  . rename_i n hn
    split at hn
    . rename_i hf
      rw[hc.1 hf];exact⟨hv,.var _ _ hf (hs.v f n hn) hn⟩
    cases hn
  rename_i hn
  split
  . rename_i hf
    refine⟨hv.new hs f xs _ λy n hy=>?_,?_⟩
    . by_cases e:y=f
      . simp only[if_pos e]at hy;exact .inr ⟨e,(Option.some.inj hy).symm,hf⟩
      simp only[if_neg e]at hy;exact .inl hy
    rw[hc.1 hf];exact .var _ _ hf (by simp) (by simp)
  rename_i hf
  have h0:=iU hs f xs;have v0:VOk (⟨s.T++[.mk f xs],s.As++[[]],s.Ps++[s.T.length],s.V⟩:JS):=hv.new hs f xs _ λy n hy=>.inl hy
  obtain⟨v1,l1⟩:=pO xs _ hc.2 h0 v0;have e1:=fH xs _ h0;have o1:=(iI xs _ h0).1;generalize hr:aX xs (⟨s.T++[.mk f xs],s.As++[[]],s.Ps++[s.T.length],s.V⟩:JS)=r at v1 l1 e1 o1 ⊢;obtain⟨ns,s1⟩:=r;simp only at v1 l1 e1 o1 ⊢;have hl0:s.T.length<s1.T.length:=by have:=e1.len;simp at this;omega
  have hfn:bT s1.T s.T.length=f:=by rw[e1.fn (by simp)];exact kN s.T (.mk f xs)
  refine⟨⟨v1.fn,λn hn=>?_⟩,?_⟩
  . have hne:n≠s.T.length:=λe=>by rw[e]at hn;have hn:bT s1.T s.T.length<0:=hn;omega
    have:=v1.ar n hn;unfold bV at this ⊢;show (List.set s1.As s.T.length ns)[n]?.getD []=[]
    rw[List.getElem?_set_ne (Ne.symm hne)];exact this
  refine .node _ _ _ hf (Nat.le_refl _) hl0 hfn ?_;have ha:bV (List.set s1.As s.T.length ns) s.T.length=ns:=by
   unfold bV;rw[List.getElem?_set_self (by rw[o1.a];exact hl0)];rfl
  show LaidS s.T.length ⟨s1.T,List.set s1.As s.T.length ns,s1.Ps,s1.V⟩ (bV (List.set s1.As s.T.length ns) s.T.length) xs
  rw[ha];refine LaidS.le (b:=s.T.length+1) (by omega) xs ns (LaidS.extB (b:=s.T.length+1) (s:=s1) (s':=⟨s1.T,List.set s1.As s.T.length ns,s1.Ps,s1.V⟩) ⟨Nat.le_refl _,λ_ _=>rfl,λn hb _=>?_,λ_ _ h=>h⟩ xs ns ?_)
  . show (List.set s1.As s.T.length ns)[n]? =_
    rw[List.getElem?_set_ne (by omega)]
  have:(⟨s.T++[.mk f xs],s.As++[[]],s.Ps++[s.T.length],s.V⟩:JS).T.length=s.T.length+1:=by simp
  rw[this]at l1;exact l1
theorem pO:∀(xs:List Tm) (s:JS),mJ xs->s.Ok->VOk s->VOk (aX xs s).2/\LaidS s.T.length (aX xs s).2 (aX xs s).1 xs
 | [],s,_,_,hv=>by rw[aX];exact⟨hv,.nil⟩
 | x::xs,s,hc,hs,hv=>by
  rw[mJ]at hc;rw[aX];obtain⟨v1,l1⟩:=gG x s hc.1 hs hv;have o1:=(eW x s hs).1;obtain⟨v2,l2⟩:=pO xs _ hc.2 o1 v1;have e2:=fH xs _ o1;have hle:=(mH x s hs).len;exact⟨v2,.cons _ _ _ _ (Laid.extB (e2.toB _) x _ l1) (LaidS.le hle xs _ l2)⟩
end
structure UGood (s t:Tm)(σ:Int->Option Tm)(rep:Nat->Nat):Prop where
 sub:σ=nL s t
 rp:rep=(uJ s t).2
 inv:JInv (uS s t).T (uS s t).As rep []
 same:rep (uA s)=rep (uB s t)
 all:∀n,n<(uS s t).T.length->∃x,TreeR (uS s t).T (uS s t).As rep n x
 vok:VOk (uS s t)
 la:Laid 0 (uS s t) (uA s) s
 lb:Laid 0 (uS s t) (uB s t) t
theorem xS {s t:Tm} {σ:Int->Option Tm} (hs:sA s)(ht:sA t)(h:cB s t=some σ):∃rep,UGood s t σ rep:=by
 unfold cB at h;split at h
 . rename_i hg
   obtain⟨h1,h2,-⟩:=hg;have v0:VOk .empty:=⟨λf n h=>(by cases h),λn _=>rfl⟩;obtain⟨v1,l1⟩:=gG s .empty hs JS.empty_ok v0;have o1:=(eW s .empty JS.empty_ok).1;obtain⟨v2,l2⟩:=gG t (cD s .empty).2 ht o1 v1;have e2:=mH t (cD s .empty).2 o1;have hj:cS (uS s t).T (uS s t).As (uK s t) [(uA s,uB s t)] id=(true,(uJ s t).2):=by
    show uJ s t=_
    rw[<-h1]
   have hi:JInv (uS s t).T (uS s t).As id [(uA s,uB s t)]:=⟨λ_=>rfl,λn _=>⟨rfl,rfl,λi u v hu hv=>by
    rw[show (bV (uS s t).As (id n))[i]? =(bV (uS s t).As n)[i]? from rfl,hv]at hu;exact .rep (Option.some.inj hu).symm⟩⟩
   obtain⟨k1,k2⟩:=eR _ _ _ _ _ _ hj hi;exact⟨_,(Option.some.inj h).symm,rfl,k1,k2 _ _ (.pair (List.mem_singleton.2 rfl)),h2,v2,Laid.extB (e2.toB 0) s _ (Laid.le (Nat.zero_le _) s _ l1),Laid.le (Nat.zero_le _) t _ l2⟩
 cases h
section
variable {s t:Tm} {σ:Int->Option Tm} {rep:Nat->Nat}
theorem UGood.var (h:UGood s t σ rep) {f:Int} {n:Nat} (hf:f<0)(hn:n<(uS s t).T.length)(hv:(uS s t).V f=some n):∃y,TreeR (uS s t).T (uS s t).As rep n y/\cX σ (.mk f [])=y/\(σ f=none->y=.mk f [])/\(∀z,σ f=some z->z=y):=by
 obtain⟨y,hy⟩:=h.all n hn;have hu:rQ s t n=y:=rR (by rw[<-h.rp];exact hy);have hsf:σ f=if y.fn=f then none else some y:=by
  rw[h.sub];unfold nL;rw[hv,<-hu]
 refine⟨y,hy,?_,?_,?_⟩
 . rw[cX,if_pos hf,hsf];by_cases e:y.fn=f
   . rw[if_pos e];cases hy with
     | mk _ g ys hg hx=>
      have e:g=f:=e;subst e;rw[h.vok.ar (rep n) (by rw[<-hg];exact hf)]at hx;cases hx;simp[bY]
   rw[if_neg e]
 . intro hnone;rw[hsf]at hnone;by_cases e:y.fn=f
   . cases hy with
     | mk _ g ys hg hx=>
      have e:g=f:=e;subst e;rw[h.vok.ar (rep n) (by rw[<-hg];exact hf)]at hx;cases hx;rfl
   rw[if_neg e]at hnone;cases hnone
 intro z hz;rw[hsf]at hz;split at hz
 . cases hz
 exact(Option.some.inj hz).symm
mutual
theorem UGood.tree (h:UGood s t σ rep):∀(x:Tm) (n:Nat),Laid 0 (uS s t) n x->TreeR (uS s t).T (uS s t).As rep n (cX σ x)
 | .mk f xs,n,hl=>by
  cases hl with
  | var _ _ hf hn hv=>
   obtain⟨y,hy,he,-⟩:=h.var hf hn hv;rw[he];exact hy
  | node _ _ _ hf hb hn ht hs=>
   obtain⟨k1,k2,k3⟩:=h.inv.fn n (by rw[ht];omega);rw[cX,if_neg hf];exact .mk _ _ _ (by rw[k1,ht]) (UGood.trees h xs _ _ hs k2 λi u v hu hv=>(k3 i u v hu hv).nil)
theorem UGood.trees (h:UGood s t σ rep):∀(xs:List Tm) (l l':List Nat),LaidS 0 (uS s t) l xs->l'.length=l.length->(∀(i u v:Nat),l'[i]? =some u->l[i]? =some v->rep u=rep v)->TreesR (uS s t).T (uS s t).As rep l' (bY σ xs)
 | [],l,l',hl,hlen,_=>by
  cases hl;obtain rfl:=List.length_eq_zero_iff.1 hlen;rw[bY];exact .nil
 | x::xs,l,l',hl,hlen,hr=>by
  cases hl with
  | cons n ns _ _ k ks=>
   match l',hlen with
   | m::ms,hlen=>
    rw[bY];refine .cons _ _ _ _ ((UGood.tree h x n k).of_rep (hr 0 m n rfl rfl).symm) (UGood.trees h xs ns ms ks (by simpa using hlen) λi u v hu hv=>hr (i+1) u v (by simpa using hu) (by simpa using hv))
end
theorem UGood.eq (h:UGood s t σ rep):cX σ s=cX σ t:=
 TreeR.det _ _ _ ((h.tree s _ h.la).of_rep h.same) (h.tree t _ h.lb)
end
theorem zL {s t:Tm} {σ:Int->Option Tm} (hs:sA s)(ht:sA t)(h:cB s t=some σ):cX σ s=cX σ t:=by
 obtain⟨rep,hg⟩:=xS hs ht h;exact hg.eq
structure Sg where
 ar:Int->Option Nat
 pr:Int->Bool
def Sg.np (g:Sg)(f:Int):Prop:=f<0\/g.pr f=false
mutual
def bQ (g:Sg):Tm->Prop
 | .mk f xs=>(f<0->xs=[])/\(¬f<0->g.ar f=some xs.length)/\bW g xs
def bW (g:Sg):List Tm->Prop
 | []=>True
 | x::xs=>(bQ g x/\g.np x.fn)/\bW g xs
end
mutual
theorem kM (g:Sg):∀t:Tm,bQ g t->sA t
 | .mk f xs,h=>by rw[bQ]at h;rw[sA];exact⟨h.1,wM g xs h.2.2⟩
theorem wM (g:Sg):∀xs:List Tm,bW g xs->mJ xs
 | [],_=>by rw[mJ];trivial
 | x::xs,h=>by rw[bW]at h;rw[mJ];exact⟨kM g x h.1.1,wM g xs h.2⟩
end
def NF (g:Sg)(E:Nat->Prop)(s:JS):Prop:=∀n,n<s.T.length->¬E n->¬bT s.T n<0->g.ar (bT s.T n)=some (bV s.As n).length/\∀m∈bV s.As n,g.np (bT s.T m)
theorem uM:∀(t:Tm) (s:JS),s.Ok->VOk s->bT (cD t s).2.T (cD t s).1=t.fn
 | .mk f xs,s,hs,hv=>by
  rw[cD];split
  . rename_i n hn
    split at hn
    . exact(hv.fn f n hn).1
    cases hn
  split
  . exact kN s.T (.mk f xs)
  have h0:=iU hs f xs;have e1:=fH xs _ h0;show bT (aX xs _).2.T s.T.length=f
  rw[e1.fn (by simp)];exact kN s.T (.mk f xs)
theorem vU:∀(xs:List Tm) (s:JS),mJ xs->s.Ok->VOk s->∀m∈(aX xs s).1,∃x∈xs,bT (aX xs s).2.T m=x.fn
 | [],s,_,_,_,m,h=>by rw[aX]at h;cases h
 | x::xs,s,hc,hs,hv,m,h=>by
  rw[mJ]at hc;rw[aX]at h ⊢;have o1:=(eW x s hs).1;have e2:=fH xs _ o1;rcases List.mem_cons.1 h with rfl | h
  . refine⟨x,List.mem_cons_self ..,?_⟩;show bT (aX xs (cD x s).2).2.T _=_
    rw[e2.fn (eW x s hs).2.2.2];exact uM x s hs hv
  obtain⟨y,hy,e⟩:=vU xs _ hc.2 o1 (gG x s hc.1 hs hv).1 m h;exact⟨y,List.mem_cons_of_mem _ hy,e⟩
theorem mP (g:Sg):∀{xs:List Tm},bW g xs->∀x∈xs,bQ g x/\g.np x.fn
 | [],_,x,h=>by cases h
 | y::ys,h,x,hx=>by
  rw[bW]at h;rcases List.mem_cons.1 hx with rfl | hx
  . exact h.1
  exact mP g h.2 x hx
theorem aI0 {g:Sg} {E:Nat->Prop} {s:JS} (hs:s.Ok)(h:NF g E s)(f:Int)(xs:List Tm)(V:Int->Option Nat):NF g (λn=>E n\/n=s.T.length) ⟨s.T++[.mk f xs],s.As++[[]],s.Ps++[s.T.length],V⟩:=by
 intro n hn hE hf;have hn1:n<s.T.length:=by simp at hn;omega
 have e1:bT (s.T++[.mk f xs]) n=bT s.T n:=by unfold bT;rw[fS _ _ hn1]
 have e2:bV (s.As++[[]]) n=bV s.As n:=by unfold bV;rw[fS _ _ (by rw[hs.a];exact hn1)]
 have hf:¬bT (s.T++[.mk f xs]) n<0:=hf;rw[e1]at hf;obtain⟨a,b⟩:=h n hn1 (λe=>hE (.inl e)) hf;refine⟨by show g.ar (bT (s.T++[.mk f xs]) n)=some (bV (s.As++[[]]) n).length;rw[e1,e2];exact a,λm hm=>?_⟩;have hm:m∈bV (s.As++[[]]) n:=hm;rw[e2]at hm;have hml:m<s.T.length:=by
  unfold bV at hm;cases hq:s.As[n]? with
  | none=>rw[hq]at hm;cases hm
  | some l=>rw[hq]at hm;exact hs.ax l (List.mem_of_getElem? hq) m hm
 have:=b m hm;have e3:bT (s.T++[.mk f xs]) m=bT s.T m:=by unfold bT;rw[fS _ _ hml]
 show g.np (bT (s.T++[.mk f xs]) m)
 rw[e3];exact this
mutual
theorem uN (g:Sg):∀(t:Tm) (s:JS) (E:Nat->Prop),bQ g t->s.Ok->VOk s->NF g E s->NF g E (cD t s).2
 | .mk f xs,s,E,hfit,hs,hv,h=>by
  have hc:=kM g _ hfit;rw[sA]at hc;rw[bQ]at hfit;rw[cD];split
  . exact h
  split
  . rename_i hf
    intro n hn hE hfn;by_cases e:n=s.T.length
    . subst e;have:bT (s.T++[.mk f xs]) s.T.length=f:=kN s.T (.mk f xs);exact absurd (by rw[<-this]at hf;exact hf) hfn
    exact aI0 hs h f xs _ n hn (by rintro(e2 | e2);exact hE e2;exact e e2) hfn
  rename_i hf
  have h0:=iU hs f xs;have v0:VOk (⟨s.T++[.mk f xs],s.As++[[]],s.Ps++[s.T.length],s.V⟩:JS):=hv.new hs f xs _ λy n hy=>.inl hy
  have n0:=aI0 hs h f xs s.V;have n1:=vV g xs _ _ hfit.2.2 h0 v0 n0;have e1:=fH xs _ h0;have o1:=(iI xs _ h0).1;have f1:=vU xs _ hc.2 h0 v0;have l1:=kI xs (⟨s.T++[.mk f xs],s.As++[[]],s.Ps++[s.T.length],s.V⟩:JS);generalize hr:aX xs (⟨s.T++[.mk f xs],s.As++[[]],s.Ps++[s.T.length],s.V⟩:JS)=r at n1 e1 o1 f1 l1 ⊢;obtain⟨ns,s1⟩:=r;simp only at n1 e1 o1 f1 l1 ⊢;have hfn:bT s1.T s.T.length=f:=by rw[e1.fn (by simp)];exact kN s.T (.mk f xs)
  have hl0:s.T.length<s1.T.length:=by have:=e1.len;simp at this;omega
  intro n hn hE hfn2;show g.ar (bT s1.T n)=some (bV (List.set s1.As s.T.length ns) n).length/\∀m∈bV (List.set s1.As s.T.length ns) n,g.np (bT s1.T m)
  by_cases e:n=s.T.length
  . subst e;have ha:bV (List.set s1.As s.T.length ns) s.T.length=ns:=by
     unfold bV;rw[List.getElem?_set_self (by rw[o1.a];exact hl0)];rfl
    rw[ha,hfn,l1];refine⟨hfit.2.1 hf,λm hm=>?_⟩;obtain⟨x,hx,ex⟩:=f1 m hm;rw[ex];exact(mP g hfit.2.2 x hx).2
  have ha:bV (List.set s1.As s.T.length ns) n=bV s1.As n:=by unfold bV;rw[List.getElem?_set_ne (Ne.symm e)]
  rw[ha];exact n1 n hn (by rintro(e2 | e2);exact hE e2;exact e e2) hfn2
theorem vV (g:Sg):∀(xs:List Tm) (s:JS) (E:Nat->Prop),bW g xs->s.Ok->VOk s->NF g E s->NF g E (aX xs s).2
 | [],s,E,_,_,_,h=>by rw[aX];exact h
 | x::xs,s,E,hfit,hs,hv,h=>by
  rw[bW]at hfit;rw[aX];exact vV g xs _ E hfit.2 (eW x s hs).1 (gG x s (kM g x hfit.1.1) hs hv).1 (uN g x s E hfit.1.1 hs hv h)
end
section
variable (g:Sg) (T:List Tm) (As:List (List Nat))
def npN (n:Nat):Prop:=g.np (bT T n)
theorem rT {rep:Nat->Nat} (h:∀n,npN g T n↔npN g T (rep n)) {y x:Nat} (hyx:npN g T y↔npN g T x):∀n,npN g T n↔npN g T (uni rep y x n):=by
 intro n;unfold uni;by_cases e:rep n=y
 . rw[if_pos e,<-hyx,<-e];exact h n
 rw[if_neg e];exact h n
theorem jC (hA:∀n m,m∈bV As n->npN g T m):∀(k:Nat) (st:List (Nat × Nat)) (rep rep':Nat->Nat),cS T As k st rep=(true,rep')->(∀n,npN g T n↔npN g T (rep n))->(∀a b,(a,b)∈st->(npN g T a↔npN g T b))->∀n,npN g T n↔npN g T (rep' n)
 | _,[],rep,rep',h,hi,_=>by
  rw[cS]at h;injection h with _ h
  subst h;exact hi
 | 0,_::_,rep,rep',h,_,_=>by rw[cS]at h;cases h
 | k+1,(a,b)::st,rep,rep',h,hi,hst=>by
  rw[cS]at h;have hs2:∀c d,(c,d)∈st->(npN g T c↔npN g T d):=λc d e=>hst c d (List.mem_cons_of_mem _ e)
  have hab:npN g T (rep a)↔npN g T (rep b):=((hi a).symm.trans (hst a b (List.mem_cons_self ..))).trans (hi b);split at h
  . exact jC hA k st rep rep' h hi hs2
  split at h
  . split at h
    . exact jC hA k st _ rep' h (rT g T hi hab) hs2
    exact jC hA k st _ rep' h (rT g T hi hab.symm) hs2
  split at h
  . exact jC hA k st _ rep' h (rT g T hi hab) hs2
  split at h
  . exact jC hA k st _ rep' h (rT g T hi hab.symm) hs2
  split at h
  . cases h
  refine jC hA k _ _ rep' h (rT g T hi hab.symm) λc d e=>?_
  rcases List.mem_append.1 e with e | e
  . have e:=List.mem_reverse.1 e;have h1:=hA _ c (List.of_mem_zip e).1;have h2:=hA _ d (List.of_mem_zip e).2;exact⟨λ_=>h2,λ_=>h1⟩
  exact hs2 c d e
end
theorem aI1 {g:Sg} {s t:Tm} (hs:bQ g s)(ht:bQ g t):NF g (λ_=>False) (uS s t)/\bT (uS s t).T (uA s)=s.fn/\bT (uS s t).T (uB s t)=t.fn:=by
 have v0:VOk .empty:=⟨λf n h=>(by cases h),λn _=>rfl⟩;have n0:NF g (λ_=>False) .empty:=λn hn=>by simp[JS.empty]at hn
 have n1:=uN g s .empty _ hs JS.empty_ok v0 n0;obtain⟨v1,-⟩:=gG s .empty (kM g s hs) JS.empty_ok v0;have o1:=(eW s .empty JS.empty_ok);have n2:=uN g t _ _ ht o1.1 v1 n1;have e2:=mH t (cD s .empty).2 o1.1;exact⟨n2,by show bT (cD t (cD s .empty).2).2.T (cD s .empty).1=_;rw[e2.fn o1.2.2.2];exact uM s .empty JS.empty_ok v0,uM t _ o1.1 v1⟩
theorem aM7 {g:Sg} {s t:Tm} (hs:bQ g s)(ht:bQ g t)(hv:VOk (uS s t)):∀n m,m∈bV (uS s t).As n->npN g (uS s t).T m:=by
 intro n m hm;have hok:=(uOk s t).ok;by_cases hf:bT (uS s t).T n<0
 . rw[hv.ar n hf]at hm;cases hm
 by_cases hn:n<(uS s t).T.length
 . exact((aI1 hs ht).1 n hn (λh=>h) hf).2 m hm
 have e:(uS s t).As[n]? =none:=List.getElem?_eq_none (by rw[hok.a];omega);unfold bV at hm;rw[e]at hm;cases hm
section
variable {g:Sg} {s t:Tm} {σ:Int->Option Tm} {rep:Nat->Nat}
theorem UGood.np (h:UGood s t σ rep)(hj:(uJ s t).1=true)(hs:bQ g s)(ht:bQ g t)(hst:g.np s.fn↔g.np t.fn):∀n,npN g (uS s t).T n↔npN g (uS s t).T (rep n):=by
 obtain⟨-,h1,h2⟩:=aI1 hs ht;have hj:cS (uS s t).T (uS s t).As (uK s t) [(uA s,uB s t)] id=(true,rep):=by
  rw[h.rp,<-hj];rfl
 refine jC g _ _ (aM7 hs ht h.vok) _ _ _ _ hj (λ_=>Iff.rfl) λa b e=>?_
 have e:=List.mem_singleton.1 e;injection e with e1 e2
 subst e1 e2;unfold npN;rw[h1,h2];exact hst
mutual
theorem UGood.fit (h:UGood s t σ rep)(hnp:∀n,npN g (uS s t).T n↔npN g (uS s t).T (rep n))(hs:bQ g s)(ht:bQ g t)(hlt:∀n,n<(uS s t).T.length->rep n<(uS s t).T.length):∀(x:Tm) (n:Nat),n<(uS s t).T.length->TreeR (uS s t).T (uS s t).As rep n x->bQ g x
 | .mk f xs,n,hn,hx=>by
  cases hx with
  | mk _ _ _ hf hx=>
   have hrn:=hlt n hn;rw[bQ];refine⟨λhf0=>?_,λhf0=>?_,?_⟩
   . rw[h.vok.ar (rep n) (by rw[<-hf];exact hf0)]at hx;cases hx;rfl
   . have:=((aI1 (g:=g) hs ht).1 (rep n) hrn (λh=>h) (by rw[<-hf];exact hf0)).1;rw[<-hf,hx.len]at this;exact this
   have hok:=(uOk s t).ok;refine UGood.fits h hnp hs ht hlt xs _ (λm hm=>⟨?_,aM7 hs ht h.vok _ m hm⟩) hx;unfold bV at hm;cases hq:(uS s t).As[rep n]? with
   | none=>rw[hq]at hm;cases hm
   | some l=>rw[hq]at hm;exact hok.ax l (List.mem_of_getElem? hq) m hm
theorem UGood.fits (h:UGood s t σ rep)(hnp:∀n,npN g (uS s t).T n↔npN g (uS s t).T (rep n))(hs:bQ g s)(ht:bQ g t)(hlt:∀n,n<(uS s t).T.length->rep n<(uS s t).T.length):∀(xs:List Tm) (ns:List Nat),(∀m∈ns,m<(uS s t).T.length/\npN g (uS s t).T m)->TreesR (uS s t).T (uS s t).As rep ns xs->bW g xs
 | [],_,_,_=>by rw[bW];trivial
 | x::xs,ns,hns,hx=>by
  cases hx with
  | cons n ns _ _ k ks=>
   obtain⟨h1,h2⟩:=hns n (List.mem_cons_self ..);rw[bW];refine⟨⟨UGood.fit h hnp hs ht hlt x n h1 k,?_⟩,UGood.fits h hnp hs ht hlt xs ns (λm hm=>hns m (List.mem_cons_of_mem _ hm)) ks⟩;cases k with
   | mk _ f ys hf _=>
    show g.np f
    rw[hf];exact(hnp n).1 h2
end
end
theorem rS {rep:Nat->Nat} {N:Nat} (h:∀n,n<N->rep n<N) {y x:Nat} (hx:x<N):∀n,n<N->uni rep y x n<N:=by
 intro n hn;unfold uni;split
 . exact hx
 exact h n hn
theorem jB (T:List Tm)(As:List (List Nat))(N:Nat)(hA:∀n m,m∈bV As n->m<N):∀(k:Nat) (st:List (Nat × Nat)) (rep rep':Nat->Nat),cS T As k st rep=(true,rep')->(∀n,n<N->rep n<N)->(∀a b,(a,b)∈st->a<N/\b<N)->∀n,n<N->rep' n<N
 | _,[],rep,rep',h,hi,_=>by
  rw[cS]at h;injection h with _ h
  subst h;exact hi
 | 0,_::_,rep,rep',h,_,_=>by rw[cS]at h;cases h
 | k+1,(a,b)::st,rep,rep',h,hi,hst=>by
  rw[cS]at h;have hs2:∀c d,(c,d)∈st->c<N/\d<N:=λc d e=>hst c d (List.mem_cons_of_mem _ e)
  obtain⟨ha,hb⟩:=hst a b (List.mem_cons_self ..);have ra:=hi a ha;have rb:=hi b hb;split at h
  . exact jB T As N hA k st rep rep' h hi hs2
  split at h
  . split at h
    . exact jB T As N hA k st _ rep' h (rS hi rb) hs2
    exact jB T As N hA k st _ rep' h (rS hi ra) hs2
  split at h
  . exact jB T As N hA k st _ rep' h (rS hi rb) hs2
  split at h
  . exact jB T As N hA k st _ rep' h (rS hi ra) hs2
  split at h
  . cases h
  refine jB T As N hA k _ _ rep' h (rS hi ra) λc d e=>?_
  rcases List.mem_append.1 e with e | e
  . have e:=List.mem_reverse.1 e;exact⟨hA _ c (List.of_mem_zip e).1,hA _ d (List.of_mem_zip e).2⟩
  exact hs2 c d e
theorem gI {g:Sg} {s t:Tm} {σ:Int->Option Tm} (hs:bQ g s)(ht:bQ g t)(hst:g.np s.fn↔g.np t.fn)(h:cB s t=some σ):cX σ s=cX σ t/\∀f y,σ f=some y->bQ g y/\g.np y.fn:=by
 have hc:=kM g s hs;have hd:=kM g t ht;refine⟨zL hc hd h,λf y hy=>?_⟩;obtain⟨rep,hg⟩:=xS hc hd h;have hj:(uJ s t).1=true:=by
  unfold cB at h;split at h
  . rename_i hu;exact hu.1
  cases h
 have hok:=(uOk s t).ok;have hlt:∀n,n<(uS s t).T.length->rep n<(uS s t).T.length:=by
  have e:cS (uS s t).T (uS s t).As (uK s t) [(uA s,uB s t)] id=(true,rep):=by rw[hg.rp,<-hj];rfl
  refine jB _ _ _ (λn m hm=>?_) _ _ _ _ e (λn hn=>hn) λa b e=>?_
  . unfold bV at hm;cases hq:(uS s t).As[n]? with
    | none=>rw[hq]at hm;cases hm
    | some l=>rw[hq]at hm;exact hok.ax l (List.mem_of_getElem? hq) m hm
  have e:=List.mem_singleton.1 e;injection e with e1 e2
  subst e1 e2;exact⟨(uOk s t).a,(uOk s t).b⟩
 have hnp:=hg.np hj hs ht hst;rw[hg.sub]at hy;unfold nL at hy;cases hv:(uS s t).V f with
 | none=>rw[hv]at hy;cases hy
 | some n=>
  rw[hv]at hy;have hn:=hok.v f n hv;obtain⟨z,hz⟩:=hg.all n hn;have hu:rQ s t n=z:=rR (by rw[<-hg.rp];exact hz);obtain⟨hfn,hf0⟩:=hg.vok.fn f n hv;simp only at hy;split at hy
  . cases hy
  have hy:=Option.some.inj hy;rw[hu]at hy;subst hy;refine⟨hg.fit hnp hs ht hlt z n hn hz,?_⟩;cases hz with
  | mk _ k ys hk _=>
   show g.np k
   rw[hk];exact(hnp n).1 (by unfold npN;rw[hfn];exact .inl hf0)
end Go.Proofs.Ytiaoabfndnidiaa