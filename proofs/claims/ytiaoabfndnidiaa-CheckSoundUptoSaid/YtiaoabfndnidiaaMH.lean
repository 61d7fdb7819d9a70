/-
 Part 8 of the proof over the checker:walks and plain laws.
-/
import Derived.Test.YtiaoabfndnidiaaMG
import Derived.Test.YtiaoabfndnidiaaMD
set_option maxRecDepth 100000
set_option maxHeartbeats 8000000
set_option linter.unusedSimpArgs false
set_option linter.unusedVariables false
namespace Go.Proofs.Ytiaoabfndnidiaa
open Go.RowKit
theorem lJ {P:Program} {K:Type} [DecidableEq K] {t k e:TypeId} {w:World} {g:Nat} {enc:K->Value} {f:K->Option Value} {ops:Array Oper} {rest:List Oper} {o:Oper} {a:Act} {Q:Exit->Act->World->Prop} (hgd:o.guard=none)(mo ko vo:Operand)
 (ho:o.op=.insert t mo ko vo) (hT:KeyTy P k enc) (ht:P.underlying t=some (.map k e)) (hm:a.eval mo=.map (some g)) (x:K) (hk:a.eval ko=enc x) (v:Value) (hv:a.eval vo=v) (h:bK w g enc f)
 (hK:∀w',bK w' g enc (λy=>if y=x then some v else f y)->Upd w w' (λk=>k=g)->wpList P ops Q rest (a.put o.dst undef) w'):wpList P ops Q (o::rest) a w:=by
 refine wpList_plain hgd λK hKK=>?_
 obtain⟨w',hr,hf',hu⟩:=h.update hT ht x v;unfold Oper.wp execOp;simp only[ho,Sem.run_bind,hm,hk,hv,hr,Result.andThen_ok,Sem.run_pure];exact hKK _ _ (hK w' hf' hu)
def dH (b:Nat)(t:TypeId)(x0 x1 x2 x3 x4 x5:Value)(w:World):Prop:=w.heap[b]? =some (.cells #[x0,x1,x2,x3,x4,x5] t (0,0))
section
variable {b:Nat} {t:TypeId} {x0 x1 x2 x3 x4 x5:Value} {w w':World}
theorem dH.lt (h:dH b t x0 x1 x2 x3 x4 x5 w):b<w.heap.size:=(Array.getElem?_eq_some_iff.1 h).1
theorem dH.cells (h:dH b t x0 x1 x2 x3 x4 x5 w):w.cell? ⟨b,0,none⟩=some x0/\w.cell? ⟨b,1,none⟩=some x1/\w.cell? ⟨b,2,none⟩=some x2/\w.cell? ⟨b,3,none⟩=some x3/\w.cell? ⟨b,4,none⟩=some x4/\w.cell? ⟨b,5,none⟩=some x5:=
 ⟨by rw[cell_of_row w b 0 _ _ _ h];rfl,by rw[cell_of_row w b 1 _ _ _ h];rfl,by rw[cell_of_row w b 2 _ _ _ h];rfl,by rw[cell_of_row w b 3 _ _ _ h];rfl,by rw[cell_of_row w b 4 _ _ _ h];rfl,by rw[cell_of_row w b 5 _ _ _ h];rfl⟩
theorem dH.upd {F:Nat->Prop} (h:dH b t x0 x1 x2 x3 x4 x5 w)(hu:Upd w w' F)(hF:¬F b):dH b t x0 x1 x2 x3 x4 x5 w':=(hu.block b h.lt hF).trans h
theorem dH.low (h:dH b t x0 x1 x2 x3 x4 x5 w)(hb:Below w.heap.size w w'):dH b t x0 x1 x2 x3 x4 x5 w':=(hb.block b h.lt).trans h
end
def oN (r:Option Cl)(w:World)(e:Ending)(w':World):Prop:=
 Below w.heap.size w w'/\∃v,e=.returned (.tuple #[v,.bool r.isSome])/\∀c,r=some c->Rd w' w'.heap.size (aT c) v
def iK (s:Sp)(c d:Cl):Option Cl:=
 if aY s 2 1 0 false=false then none
 else if (s.lits.headD 0)<0\/(d.length:Int)<=s.lits.headD 0\/d.length<c.length then none
 else if aB9 c d (s.lits.headD 0).toNat=true then some (d.eraseIdx (s.lits.headD 0).toNat)else none
theorem aL0 (s:Sp)(c d:Cl)(v1 v2 v3 v4 v5 vc vd:Value)(B:Nat)(w:World)(hs:RdS w B s v1 v2 v3 v4 v5)(hc:Rd w B (aT c) vc)(hd:Rd w B (aT d) vd)(hB:B<=w.heap.size)(hpat:∀x∈c,eV x.l=true/\eV x.r=true)(hcn:c.length<=1000)(hdn:d.length<=1000):
 Calls Try.prog 51 #[.agg #[.int .i64 s.rule,v1,v2,v3,v4,v5],vc,vd] w (oN (iK s c d) w):=by
 obtain⟨Ac,cc,rfl,-,-,-⟩:=Rd.cl_form hc;obtain⟨Ad,cd,rfl,-,-,-⟩:=Rd.cl_form hd;have HStp:=Lh hs;have Hc:=Lh hc;have Hd:=Lh hd;have Hpat:=Lh hpat;cases hnum:aY s 2 1 0 false with
 | false=>
  have hno:iK s c d=none:=by unfold iK;rw[if_pos hnum]
  have Hno:=Lh hno;have HNum:=Lh hnum;obtain⟨i,a2,o2,c2,-⟩:∃(i:Int) (a2 o2 c2:Nat),True:=⟨0,0,0,0,trivial⟩;have V2:=Lh (rfl:v2=v2);clear hs hc hd hpat hno hnum;go_enter Try.func51,Try.ntmps51;go_upto_region 1 with fail
  obtain⟨hx1,hx2,hB2,hz2⟩:=aO w (.cells #[.int .i64 s.rule,v1,v2,v3,v4,v5] 45) (.cells #[.slice Ad d.length cd] 38);have hx1:dH w.heap.size 45 (.int .i64 s.rule) v1 v2 v3 v4 v5 _:=hx1;have hx2:aU (w.heap.size+1) 38 (.slice Ad d.length cd) _:=hx2;generalize (w.alloc (.cells #[.int .i64 s.rule,v1,v2,v3,v4,v5] 45)).alloc (.cells #[.slice Ad d.length cd] 38)=w2 at hx1 hx2 hB2 hz2 ⊢;have HX1:=Lh hx1;have HX2:=Lh hx2;have HB2:=Lh hB2;clear hx1 hx2 hB2;refine rg 26 (λ_ w'=>Below w2.heap.size w2 w') ?_;intro wd hwd hbd;refine⟨?_,λhS=>?_⟩
  . exact hwd ▸ hbd
  refine tk 0 (.agg #[.int .i64 s.rule,v1,v2,v3,v4,v5]) hS ?_ λhS=>?_
  . intro w' L hn hw;have o3:=(HX1.out.low hw).cells;simp[execOp,go_sem,o3.1,o3.2.1,o3.2.2.1,o3.2.2.2.1,o3.2.2.2.2.1,o3.2.2.2.2.2]
  refine so 1 ?_;have hbd2:Below w2.heap.size w2 wd:=hwd ▸ hbd;have hzd:wd.heap.size=w2.heap.size:=by rw[hwd]
  have hlow:Below w.heap.size w wd:=HB2.out.trans (hbd2.mono (by omega));have hc1:=aN s 2 1 0 false v1 v2 v3 v4 v5 B wd (HStp.out.low hlow hB);rw[HNum.out]at hc1;refine aG ?_ hc1 ?_
  . simp[execOp,resolve,invoke,go_sem]
  rintro e w6 ⟨rfl,hb6⟩;refine⟨_,rfl,?_⟩;refine gS ?_ λhS=>?_
  . exact hS.trans (hb6.mono hS.size)
  refine ta 2 (.bool (!false)) hS λhS=>?_
  refine ta 3 (.bool (!false)) hS λhS=>?_
  refine sk 4 hS λhS=>?_
  refine sk 5 hS λhS=>?_
  refine sk 6 hS λhS=>?_
  refine sk 7 hS λhS=>?_
  refine sk 8 hS λhS=>?_
  refine ta 9 (.bool true) hS λhS=>?_
  refine ta 10 (.bool true) hS λhS=>?_
  refine sk 11 hS λhS=>?_
  refine sk 12 hS λhS=>?_
  refine sk 13 hS λhS=>?_
  refine sk 14 hS λhS=>?_
  refine sk 15 hS λhS=>?_
  refine sk 16 hS λhS=>?_
  refine sk 17 hS λhS=>?_
  refine ta 18 (.bool true) hS λhS=>?_
  refine ta 19 (.bool true) hS λhS=>?_
  refine sk 20 hS λhS=>?_
  refine sk 21 hS λhS=>?_
  refine sk 22 hS λhS=>?_
  refine sk 23 hS λhS=>?_
  refine sk 24 hS λhS=>?_
  refine ta 25 (.bool true) hS λhS=>?_
  refine dn ?_;have Hlow6:=Lh hS;clear hS hb6 hlow hzd hbd2 hwd hbd;have hfin:Below w.heap.size w w6:=HB2.out.trans (Hlow6.out.mono (by omega));have Hfin:=Lh hfin;clear hfin;go_wp2_with fail;refine bodyPost_ret (v:=.tuple #[.slice none 0 0,.bool false]) (by simp[results,Try.results51,go_sem]) rfl ?_;rw[Hno.out];exact⟨Hfin.out,_,rfl,λc h=>by cases h⟩
 | true=>
  have hl1:s.lits.length=1:=by unfold aY at hnum;simp at hnum;exact hnum.1.1.2
  obtain⟨i,hi⟩:=List.length_eq_one_iff.1 hl1;obtain⟨-,-,A2,c2,-,-,-,-,-,-,-,hv2,-⟩:=hs.forms;have hli:=hs.lits;rw[hv2]at hli;rw[hl1]at hv2 hli;unfold bM at hli;obtain⟨a2,o2,hA2,ha2,ho2⟩:=Rd.leaf_at (f:=λn=>.int .i64 n) hli (k:=0) (by omega);rw[hA2]at hv2;simp only[hi,List.getElem_cons_zero,Nat.add_zero]at ho2;have hcm:iK s c d=if i<0\/(d.length:Int)<=i\/d.length<c.length then none else if aB9 c d i.toNat=true then some (d.eraseIdx i.toNat)else none:=by
   unfold iK;rw[if_neg (by rw[hnum];decide),hi];rfl
  have HNum:=Lh hnum;have V2:=Lh hv2;have Oi:=Lh ho2;have Hcm:=Lh hcm;clear hs hc hd hpat hnum hl1 hi hv2 hli hA2 ho2 hcm;by_cases h8:i<0
  . have hno:iK s c d=none:=(by rw[Hcm.out,if_pos (.inl h8)]);have Hno:=Lh hno;clear hno;go_enter Try.func51,Try.ntmps51;go_upto_region 1 with fail
    obtain⟨hx1,hx2,hB2,hz2⟩:=aO w (.cells #[.int .i64 s.rule,v1,v2,v3,v4,v5] 45) (.cells #[.slice Ad d.length cd] 38);have hx1:dH w.heap.size 45 (.int .i64 s.rule) v1 v2 v3 v4 v5 _:=hx1;have hx2:aU (w.heap.size+1) 38 (.slice Ad d.length cd) _:=hx2;generalize (w.alloc (.cells #[.int .i64 s.rule,v1,v2,v3,v4,v5] 45)).alloc (.cells #[.slice Ad d.length cd] 38)=w2 at hx1 hx2 hB2 hz2 ⊢;have HX1:=Lh hx1;have HX2:=Lh hx2;have HB2:=Lh hB2;clear hx1 hx2 hB2;have ha2w:a2<w2.heap.size:=(by omega);have Oi2:=Lh ((HB2.out.cell (p:=⟨a2,o2,none⟩) (show a2<w.heap.size by omega)).trans Oi.out);refine rg 26 (λ_ w'=>Below w2.heap.size w2 w') ?_;intro wd hwd hbd;refine⟨?_,λhS=>?_⟩
    . exact hwd ▸ hbd
    refine tk 0 (.agg #[.int .i64 s.rule,v1,v2,v3,v4,v5]) hS ?_ λhS=>?_
    . intro w' L hn hw;have o3:=(HX1.out.low hw).cells;simp[execOp,go_sem,o3.1,o3.2.1,o3.2.2.1,o3.2.2.2.1,o3.2.2.2.2.1,o3.2.2.2.2.2]
    refine so 1 ?_;have hbd2:Below w2.heap.size w2 wd:=hwd ▸ hbd;have hzd:wd.heap.size=w2.heap.size:=(by rw[hwd]);have hlow:Below w.heap.size w wd:=HB2.out.trans (hbd2.mono (by omega));have hc1:=aN s 2 1 0 false v1 v2 v3 v4 v5 B wd (HStp.out.low hlow hB);rw[HNum.out]at hc1;refine aG ?_ hc1 ?_
    . simp[execOp,resolve,invoke,go_sem]
    rintro e w6 ⟨rfl,hb6⟩;refine⟨_,rfl,?_⟩;refine gS ?_ λhS=>?_
    . exact hS.trans (hb6.mono hS.size)
    refine ta 2 (.bool (!true)) hS λhS=>?_
    refine ta 3 (.bool (!true)) hS λhS=>?_
    refine ta 4 (.pointer (some ⟨w.heap.size,2,none⟩)) hS λhS=>?_
    refine tk 5 (.slice (some ⟨a2,o2,none⟩) 1 c2) hS ?_ λhS=>?_
    . intro w' L hn hw;have o3:=(HX1.out.low hw).cells;simp[execOp,go_sem,o3.2.2.1,V2.out]
    refine ta 6 (.pointer (some ⟨a2,o2,none⟩)) hS λhS=>?_
    refine tk 7 (.int .i64 i) hS ?_ λhS=>?_
    . intro w' L hn hw;(have oi:=(hw.cell (p:=⟨a2,o2,none⟩) ha2w).trans Oi2.out)
      simp[execOp,go_sem,oi]
    refine tk 8 (.bool true) hS ?_ λhS=>?_
    . intros;simp[execOp,go_sem,h8]
    refine ta 9 (.bool true) hS λhS=>?_
    refine ta 10 (.bool true) hS λhS=>?_
    refine sk 11 hS λhS=>?_
    refine sk 12 hS λhS=>?_
    refine sk 13 hS λhS=>?_
    refine sk 14 hS λhS=>?_
    refine sk 15 hS λhS=>?_
    refine sk 16 hS λhS=>?_
    refine sk 17 hS λhS=>?_
    refine ta 18 (.bool true) hS λhS=>?_
    refine ta 19 (.bool true) hS λhS=>?_
    refine sk 20 hS λhS=>?_
    refine sk 21 hS λhS=>?_
    refine sk 22 hS λhS=>?_
    refine sk 23 hS λhS=>?_
    refine sk 24 hS λhS=>?_
    refine ta 25 (.bool true) hS λhS=>?_
    refine dn ?_;have Hlow6:=Lh hS;clear hS hb6 hlow hzd hbd2 hwd hbd;have hfin:Below w.heap.size w w6:=HB2.out.trans (Hlow6.out.mono (by omega));have Hfin:=Lh hfin;clear hfin;go_wp2_with fail;refine bodyPost_ret (v:=.tuple #[.slice none 0 0,.bool false]) (by simp[results,Try.results51,go_sem]) rfl ?_;rw[Hno.out];exact⟨Hfin.out,_,rfl,λc h=>by cases h⟩
  by_cases h17:(d.length:Int)<=i
  . have hno:iK s c d=none:=(by rw[Hcm.out,if_pos (.inr (.inl h17))]);have Hno:=Lh hno;clear hno;go_enter Try.func51,Try.ntmps51;go_upto_region 1 with fail
    obtain⟨hx1,hx2,hB2,hz2⟩:=aO w (.cells #[.int .i64 s.rule,v1,v2,v3,v4,v5] 45) (.cells #[.slice Ad d.length cd] 38);have hx1:dH w.heap.size 45 (.int .i64 s.rule) v1 v2 v3 v4 v5 _:=hx1;have hx2:aU (w.heap.size+1) 38 (.slice Ad d.length cd) _:=hx2;generalize (w.alloc (.cells #[.int .i64 s.rule,v1,v2,v3,v4,v5] 45)).alloc (.cells #[.slice Ad d.length cd] 38)=w2 at hx1 hx2 hB2 hz2 ⊢;have HX1:=Lh hx1;have HX2:=Lh hx2;have HB2:=Lh hB2;clear hx1 hx2 hB2;have ha2w:a2<w2.heap.size:=(by omega);have Oi2:=Lh ((HB2.out.cell (p:=⟨a2,o2,none⟩) (show a2<w.heap.size by omega)).trans Oi.out);refine rg 26 (λ_ w'=>Below w2.heap.size w2 w') ?_;intro wd hwd hbd;refine⟨?_,λhS=>?_⟩
    . exact hwd ▸ hbd
    refine tk 0 (.agg #[.int .i64 s.rule,v1,v2,v3,v4,v5]) hS ?_ λhS=>?_
    . intro w' L hn hw;have o3:=(HX1.out.low hw).cells;simp[execOp,go_sem,o3.1,o3.2.1,o3.2.2.1,o3.2.2.2.1,o3.2.2.2.2.1,o3.2.2.2.2.2]
    refine so 1 ?_;have hbd2:Below w2.heap.size w2 wd:=hwd ▸ hbd;have hzd:wd.heap.size=w2.heap.size:=(by rw[hwd]);have hlow:Below w.heap.size w wd:=HB2.out.trans (hbd2.mono (by omega));have hc1:=aN s 2 1 0 false v1 v2 v3 v4 v5 B wd (HStp.out.low hlow hB);rw[HNum.out]at hc1;refine aG ?_ hc1 ?_
    . simp[execOp,resolve,invoke,go_sem]
    rintro e w6 ⟨rfl,hb6⟩;refine⟨_,rfl,?_⟩;refine gS ?_ λhS=>?_
    . exact hS.trans (hb6.mono hS.size)
    refine ta 2 (.bool (!true)) hS λhS=>?_
    refine ta 3 (.bool (!true)) hS λhS=>?_
    refine ta 4 (.pointer (some ⟨w.heap.size,2,none⟩)) hS λhS=>?_
    refine tk 5 (.slice (some ⟨a2,o2,none⟩) 1 c2) hS ?_ λhS=>?_
    . intro w' L hn hw;have o3:=(HX1.out.low hw).cells;simp[execOp,go_sem,o3.2.2.1,V2.out]
    refine ta 6 (.pointer (some ⟨a2,o2,none⟩)) hS λhS=>?_
    refine tk 7 (.int .i64 i) hS ?_ λhS=>?_
    . intro w' L hn hw;(have oi:=(hw.cell (p:=⟨a2,o2,none⟩) ha2w).trans Oi2.out)
      simp[execOp,go_sem,oi]
    refine tk 8 (.bool false) hS ?_ λhS=>?_
    . intros;simp[execOp,go_sem,h8]
    refine ta 9 (.bool false) hS λhS=>?_
    refine ta 10 (.bool false) hS λhS=>?_
    refine ta 11 (.pointer (some ⟨w.heap.size,2,none⟩)) hS λhS=>?_
    refine tk 12 (.slice (some ⟨a2,o2,none⟩) 1 c2) hS ?_ λhS=>?_
    . intro w' L hn hw;have o3:=(HX1.out.low hw).cells;simp[execOp,go_sem,o3.2.2.1,V2.out]
    refine ta 13 (.pointer (some ⟨a2,o2,none⟩)) hS λhS=>?_
    refine tk 14 (.int .i64 i) hS ?_ λhS=>?_
    . intro w' L hn hw;(have oi:=(hw.cell (p:=⟨a2,o2,none⟩) ha2w).trans Oi2.out)
      simp[execOp,go_sem,oi]
    refine tk 15 (.slice Ad d.length cd) hS ?_ λhS=>?_
    . intro w' L hn hw;have o5:=(HX2.out.low hw).cell;simp[execOp,go_sem,o5]
    refine ta 16 (.int .i64 (d.length:Nat)) hS λhS=>?_
    refine tk 17 (.bool true) hS ?_ λhS=>?_
    . intros;simp[execOp,go_sem,h17]
    refine ta 18 (.bool true) hS λhS=>?_
    refine ta 19 (.bool true) hS λhS=>?_
    refine sk 20 hS λhS=>?_
    refine sk 21 hS λhS=>?_
    refine sk 22 hS λhS=>?_
    refine sk 23 hS λhS=>?_
    refine sk 24 hS λhS=>?_
    refine ta 25 (.bool true) hS λhS=>?_
    refine dn ?_;have Hlow6:=Lh hS;clear hS hb6 hlow hzd hbd2 hwd hbd;have hfin:Below w.heap.size w w6:=HB2.out.trans (Hlow6.out.mono (by omega));have Hfin:=Lh hfin;clear hfin;go_wp2_with fail;refine bodyPost_ret (v:=.tuple #[.slice none 0 0,.bool false]) (by simp[results,Try.results51,go_sem]) rfl ?_;rw[Hno.out];exact⟨Hfin.out,_,rfl,λc h=>by cases h⟩
  by_cases h24:d.length<c.length
  . have hno:iK s c d=none:=(by rw[Hcm.out,if_pos (.inr (.inr h24))]);have Hno:=Lh hno;have h24':(d.length:Int)<(c.length:Int):=(by omega);clear hno;go_enter Try.func51,Try.ntmps51;go_upto_region 1 with fail
    obtain⟨hx1,hx2,hB2,hz2⟩:=aO w (.cells #[.int .i64 s.rule,v1,v2,v3,v4,v5] 45) (.cells #[.slice Ad d.length cd] 38);have hx1:dH w.heap.size 45 (.int .i64 s.rule) v1 v2 v3 v4 v5 _:=hx1;have hx2:aU (w.heap.size+1) 38 (.slice Ad d.length cd) _:=hx2;generalize (w.alloc (.cells #[.int .i64 s.rule,v1,v2,v3,v4,v5] 45)).alloc (.cells #[.slice Ad d.length cd] 38)=w2 at hx1 hx2 hB2 hz2 ⊢;have HX1:=Lh hx1;have HX2:=Lh hx2;have HB2:=Lh hB2;clear hx1 hx2 hB2;have ha2w:a2<w2.heap.size:=(by omega);have Oi2:=Lh ((HB2.out.cell (p:=⟨a2,o2,none⟩) (show a2<w.heap.size by omega)).trans Oi.out);refine rg 26 (λ_ w'=>Below w2.heap.size w2 w') ?_;intro wd hwd hbd;refine⟨?_,λhS=>?_⟩
    . exact hwd ▸ hbd
    refine tk 0 (.agg #[.int .i64 s.rule,v1,v2,v3,v4,v5]) hS ?_ λhS=>?_
    . intro w' L hn hw;have o3:=(HX1.out.low hw).cells;simp[execOp,go_sem,o3.1,o3.2.1,o3.2.2.1,o3.2.2.2.1,o3.2.2.2.2.1,o3.2.2.2.2.2]
    refine so 1 ?_;have hbd2:Below w2.heap.size w2 wd:=hwd ▸ hbd;have hzd:wd.heap.size=w2.heap.size:=(by rw[hwd]);have hlow:Below w.heap.size w wd:=HB2.out.trans (hbd2.mono (by omega));have hc1:=aN s 2 1 0 false v1 v2 v3 v4 v5 B wd (HStp.out.low hlow hB);rw[HNum.out]at hc1;refine aG ?_ hc1 ?_
    . simp[execOp,resolve,invoke,go_sem]
    rintro e w6 ⟨rfl,hb6⟩;refine⟨_,rfl,?_⟩;refine gS ?_ λhS=>?_
    . exact hS.trans (hb6.mono hS.size)
    refine ta 2 (.bool (!true)) hS λhS=>?_
    refine ta 3 (.bool (!true)) hS λhS=>?_
    refine ta 4 (.pointer (some ⟨w.heap.size,2,none⟩)) hS λhS=>?_
    refine tk 5 (.slice (some ⟨a2,o2,none⟩) 1 c2) hS ?_ λhS=>?_
    . intro w' L hn hw;have o3:=(HX1.out.low hw).cells;simp[execOp,go_sem,o3.2.2.1,V2.out]
    refine ta 6 (.pointer (some ⟨a2,o2,none⟩)) hS λhS=>?_
    refine tk 7 (.int .i64 i) hS ?_ λhS=>?_
    . intro w' L hn hw;(have oi:=(hw.cell (p:=⟨a2,o2,none⟩) ha2w).trans Oi2.out)
      simp[execOp,go_sem,oi]
    refine tk 8 (.bool false) hS ?_ λhS=>?_
    . intros;simp[execOp,go_sem,h8]
    refine ta 9 (.bool false) hS λhS=>?_
    refine ta 10 (.bool false) hS λhS=>?_
    refine ta 11 (.pointer (some ⟨w.heap.size,2,none⟩)) hS λhS=>?_
    refine tk 12 (.slice (some ⟨a2,o2,none⟩) 1 c2) hS ?_ λhS=>?_
    . intro w' L hn hw;have o3:=(HX1.out.low hw).cells;simp[execOp,go_sem,o3.2.2.1,V2.out]
    refine ta 13 (.pointer (some ⟨a2,o2,none⟩)) hS λhS=>?_
    refine tk 14 (.int .i64 i) hS ?_ λhS=>?_
    . intro w' L hn hw;(have oi:=(hw.cell (p:=⟨a2,o2,none⟩) ha2w).trans Oi2.out)
      simp[execOp,go_sem,oi]
    refine tk 15 (.slice Ad d.length cd) hS ?_ λhS=>?_
    . intro w' L hn hw;have o5:=(HX2.out.low hw).cell;simp[execOp,go_sem,o5]
    refine ta 16 (.int .i64 (d.length:Nat)) hS λhS=>?_
    refine tk 17 (.bool false) hS ?_ λhS=>?_
    . intros;simp[execOp,go_sem,h17]
    refine ta 18 (.bool false) hS λhS=>?_
    refine ta 19 (.bool false) hS λhS=>?_
    refine ta 20 (.slice Ac c.length cc) hS λhS=>?_
    refine ta 21 (.int .i64 (c.length:Nat)) hS λhS=>?_
    refine tk 22 (.slice Ad d.length cd) hS ?_ λhS=>?_
    . intro w' L hn hw;have o5:=(HX2.out.low hw).cell;simp[execOp,go_sem,o5]
    refine ta 23 (.int .i64 (d.length:Nat)) hS λhS=>?_
    refine tk 24 (.bool true) hS ?_ λhS=>?_
    . intros;simp[execOp,go_sem,h24]
    refine ta 25 (.bool true) hS λhS=>?_
    refine dn ?_;have Hlow6:=Lh hS;clear hS hb6 hlow hzd hbd2 hwd hbd;have hfin:Below w.heap.size w w6:=HB2.out.trans (Hlow6.out.mono (by omega));have Hfin:=Lh hfin;clear hfin;go_wp2_with fail;refine bodyPost_ret (v:=.tuple #[.slice none 0 0,.bool false]) (by simp[results,Try.results51,go_sem]) rfl ?_;rw[Hno.out];exact⟨Hfin.out,_,rfl,λc h=>by cases h⟩
  have h24':¬((d.length:Int)<(c.length:Int)):=by omega
  go_enter Try.func51,Try.ntmps51;go_upto_region 1 with fail
  obtain⟨hx1,hx2,hB2,hz2⟩:=aO w (.cells #[.int .i64 s.rule,v1,v2,v3,v4,v5] 45) (.cells #[.slice Ad d.length cd] 38);have hx1:dH w.heap.size 45 (.int .i64 s.rule) v1 v2 v3 v4 v5 _:=hx1;have hx2:aU (w.heap.size+1) 38 (.slice Ad d.length cd) _:=hx2;generalize (w.alloc (.cells #[.int .i64 s.rule,v1,v2,v3,v4,v5] 45)).alloc (.cells #[.slice Ad d.length cd] 38)=w2 at hx1 hx2 hB2 hz2 ⊢;have HX1:=Lh hx1;have HX2:=Lh hx2;have HB2:=Lh hB2;clear hx1 hx2 hB2;have ha2w:a2<w2.heap.size:=by omega
  have Oi2:=Lh ((HB2.out.cell (p:=⟨a2,o2,none⟩) (show a2<w.heap.size by omega)).trans Oi.out);refine rg 26 (λ_ w'=>Below w2.heap.size w2 w') ?_;intro wd hwd hbd;refine⟨?_,λhS=>?_⟩
  . exact hwd ▸ hbd
  refine tk 0 (.agg #[.int .i64 s.rule,v1,v2,v3,v4,v5]) hS ?_ λhS=>?_
  . intro w' L hn hw;have o3:=(HX1.out.low hw).cells;simp[execOp,go_sem,o3.1,o3.2.1,o3.2.2.1,o3.2.2.2.1,o3.2.2.2.2.1,o3.2.2.2.2.2]
  refine so 1 ?_;have hbd2:Below w2.heap.size w2 wd:=hwd ▸ hbd;have hzd:wd.heap.size=w2.heap.size:=by rw[hwd]
  have hlow:Below w.heap.size w wd:=HB2.out.trans (hbd2.mono (by omega));have hc1:=aN s 2 1 0 false v1 v2 v3 v4 v5 B wd (HStp.out.low hlow hB);rw[HNum.out]at hc1;refine aG ?_ hc1 ?_
  . simp[execOp,resolve,invoke,go_sem]
  rintro e w6 ⟨rfl,hb6⟩;refine⟨_,rfl,?_⟩;refine gS ?_ λhS=>?_
  . exact hS.trans (hb6.mono hS.size)
  refine ta 2 (.bool (!true)) hS λhS=>?_
  refine ta 3 (.bool (!true)) hS λhS=>?_
  refine ta 4 (.pointer (some ⟨w.heap.size,2,none⟩)) hS λhS=>?_
  refine tk 5 (.slice (some ⟨a2,o2,none⟩) 1 c2) hS ?_ λhS=>?_
  . intro w' L hn hw;have o3:=(HX1.out.low hw).cells;simp[execOp,go_sem,o3.2.2.1,V2.out]
  refine ta 6 (.pointer (some ⟨a2,o2,none⟩)) hS λhS=>?_
  refine tk 7 (.int .i64 i) hS ?_ λhS=>?_
  . intro w' L hn hw;(have oi:=(hw.cell (p:=⟨a2,o2,none⟩) ha2w).trans Oi2.out)
    simp[execOp,go_sem,oi]
  refine tk 8 (.bool false) hS ?_ λhS=>?_
  . intros;simp[execOp,go_sem,h8]
  refine ta 9 (.bool false) hS λhS=>?_
  refine ta 10 (.bool false) hS λhS=>?_
  refine ta 11 (.pointer (some ⟨w.heap.size,2,none⟩)) hS λhS=>?_
  refine tk 12 (.slice (some ⟨a2,o2,none⟩) 1 c2) hS ?_ λhS=>?_
  . intro w' L hn hw;have o3:=(HX1.out.low hw).cells;simp[execOp,go_sem,o3.2.2.1,V2.out]
  refine ta 13 (.pointer (some ⟨a2,o2,none⟩)) hS λhS=>?_
  refine tk 14 (.int .i64 i) hS ?_ λhS=>?_
  . intro w' L hn hw;(have oi:=(hw.cell (p:=⟨a2,o2,none⟩) ha2w).trans Oi2.out)
    simp[execOp,go_sem,oi]
  refine tk 15 (.slice Ad d.length cd) hS ?_ λhS=>?_
  . intro w' L hn hw;have o5:=(HX2.out.low hw).cell;simp[execOp,go_sem,o5]
  refine ta 16 (.int .i64 (d.length:Nat)) hS λhS=>?_
  refine tk 17 (.bool false) hS ?_ λhS=>?_
  . intros;simp[execOp,go_sem,h17]
  refine ta 18 (.bool false) hS λhS=>?_
  refine ta 19 (.bool false) hS λhS=>?_
  refine ta 20 (.slice Ac c.length cc) hS λhS=>?_
  refine ta 21 (.int .i64 (c.length:Nat)) hS λhS=>?_
  refine tk 22 (.slice Ad d.length cd) hS ?_ λhS=>?_
  . intro w' L hn hw;have o5:=(HX2.out.low hw).cell;simp[execOp,go_sem,o5]
  refine ta 23 (.int .i64 (d.length:Nat)) hS λhS=>?_
  refine tk 24 (.bool false) hS ?_ λhS=>?_
  . intros;simp[execOp,go_sem,h24]
  refine ta 25 (.bool false) hS λhS=>?_
  refine dn ?_;have Hlow6:=Lh hS;clear hS hb6 hlow hzd hbd2 hwd hbd;obtain⟨iN,rfl⟩:∃iN:Nat,i=(iN:Int):=⟨i.toNat,by omega⟩;have hcm:=Hcm.out;rw[if_neg (by omega),Int.toNat_natCast]at hcm;have Hcm2:=Lh hcm;have hiN:iN<d.length:=by omega
  clear hcm h8 h17;have o3:=(HX1.out.low Hlow6.out).cells.2.2.1;rw[V2.out]at o3;have oi:=(Hlow6.out.cell (p:=⟨a2,o2,none⟩) ha2w).trans Oi2.out;have hlow6:Below w.heap.size w w6:=HB2.out.trans (Hlow6.out.mono (by omega));have hx26:=HX2.out.low Hlow6.out;have H6:=Lh hlow6;have HX26:=Lh hx26;have hz26:=Hlow6.out.size;clear hlow6 hx26;go_wp2_with fail;go_loopw [50] (λi wr=>∃j:Nat,j<=c.length/\i=.int .i64 j/\(∀k,k<j->pX c d iN k=false)/\Below w.heap.size w wr/\aU (w.heap.size+1) 38 (.slice Ad d.length cd) wr) (λi _=>c.length-(intOf i).toNat)
  case atStart=>exact⟨0,Nat.zero_le _,rfl,λk h=>by omega,H6.out,HX26.out⟩
  obtain⟨j,hj,rfl,hjn,hlr,hxr⟩:=hrel;have Hjn:=Lh hjn;have Hlr:=Lh hlr;have Hxr:=Lh hxr;have hzr:=hlr.size;clear hjn hlr hxr o3 oi;by_cases hjc:j<c.length
  . have hjc':(j:Int)<(c.length:Int):=(by omega);obtain⟨wo,rfl⟩:∃wo:World,wo=wr:=⟨_,rfl⟩;go_wp2_with fail;have hbx7:=aD wo (.cells #[.bool false,.bool true] 4);have hbe7:aL wo.heap.size 4 (.bool false) (.bool true) (wo.alloc (.cells #[.bool false,.bool true] 4)):=heap_alloc_new wo _;have hxr7:=Hxr.out.low hbx7;have hlr7:Below w.heap.size w (wo.alloc (.cells #[.bool false,.bool true] 4)):=Hlr.out.trans (hbx7.mono hzr);have hz7:(wo.alloc (.cells #[.bool false,.bool true] 4)).heap.size=wo.heap.size+1:=(by simp);generalize wo.alloc (.cells #[.bool false,.bool true] 4)=w7 at hbx7 hbe7 hxr7 hlr7 hz7 ⊢;have Hbe7:=Lh hbe7;have Hxr7:=Lh hxr7;have Hlr7:=Lh hlr7;clear hbx7 hbe7 hxr7 hlr7;go_loopw [55] (λi wr=>∃n:Nat,n<=2/\i=.int .i64 n/\(1<=n->dX c d iN j false=false)/\(2<=n->dX c d iN j true=false)/\Below w.heap.size w wr/\aU (w.heap.size+1) 38 (.slice Ad d.length cd) wr/\aL wo.heap.size 4 (.bool false) (.bool true) wr) (λi _=>2-(intOf i).toNat)
    case atStart=>exact⟨0,by omega,rfl,λh=>by omega,λh=>by omega,Hlr7.out,Hxr7.out,Hbe7.out⟩
    obtain⟨n,hn,rfl,ht1,ht2,hlr,hxr,hbe⟩:=hrel;have Ht1:=Lh ht1;have Ht2:=Lh ht2;have Hlr:=Lh hlr;have Hxr:=Lh hxr;have Hbe:=Lh hbe;have hzr2:=hlr.size;have hxrl:=hxr.lt;have hbel:=hbe.lt;obtain⟨y0,y1,-⟩:=hbe.cells;clear ht1 ht2 hlr hxr hbe;rcases(by omega:n=0\/n=1\/n=2)with rfl | rfl | rfl
    . have hmm:= @run_makeMap Try.prog;go_upto_region 11 with fail
      clear hmm;obtain⟨hx1,hx2,hx3,hB3,hz3⟩:=fW wr (.map #[] 0) (.cells #[.map (some wr.heap.size),.slice none 0 0] 122) (.cells #[.pointer (some ⟨wr.heap.size+1,0,none⟩)] 120);generalize ((wr.alloc (.map #[] 0)).alloc (.cells #[.map (some wr.heap.size),.slice none 0 0] 122)).alloc (.cells #[.pointer (some ⟨wr.heap.size+1,0,none⟩)] 120)=w3 at hx1 hx2 hx3 hB3 hz3 ⊢;have hxp3:aU (wr.heap.size+1+1) 120 (.pointer (some ⟨wr.heap.size+1,0,none⟩)) w3:=hx3;have hmr3:=MtR.empty (B:=B) (bm:=wr.heap.size+1) (gm:=wr.heap.size) hx2 hx1;have hmt3:MtI B (wr.heap.size+1) wr.heap.size [] w3:=⟨_,_,hmr3⟩;have HFl5:∀k,MtF (wr.heap.size+1) wr.heap.size w3 k->k=wr.heap.size+1\/k=wr.heap.size:=λk hk=>by
       rcases(hmr3.f_iff k).1 hk with e | e | e
       . exact .inl e
       . exact .inr e
       cases e
      have hlow3:Below w.heap.size w w3:=Hlr.out.trans (hB3.mono (by omega));obtain⟨Bc,oc,n1,f1,zs1,A1,c1,g1,us1,D1,d1,hAc,hxk,hbc,k0,k1,k2,k3,k4,hr1,hr2⟩:=(Hc.out.low hlow3 hB).lt_at hjc;subst hAc;have Hxk:=Lh hxk;have HR1:=Lh hr1;have HR2:=Lh hr2;have Hxp3:=Lh hxp3;have Hmt3:=Lh hmt3;have Hlow3:=Lh hlow3;have HB3:=Lh hB3;clear hx1 hx2 hx3 hB3 hxp3 hmt3 hlow3 hxk hr1 hr2;go_upto_region 13 with fail
      have hbx5:=aD w3 (.cells #[.bool !n1,.int .i64 f1,.slice A1 zs1.length c1,.int .i64 g1,.slice D1 us1.length d1] 53);have hbe5:eT w3.heap.size 53 (.bool !n1) (.int .i64 f1) (.slice A1 zs1.length c1) (.int .i64 g1) (.slice D1 us1.length d1) (w3.alloc (.cells #[.bool !n1,.int .i64 f1,.slice A1 zs1.length c1,.int .i64 g1,.slice D1 us1.length d1] 53)):=heap_alloc_new w3 _;generalize w3.alloc (.cells #[.bool !n1,.int .i64 f1,.slice A1 zs1.length c1,.int .i64 g1,.slice D1 us1.length d1] 53)=w5 at hbx5 hbe5 ⊢;have hz5:=hbx5.size;have hx5l:=hbe5.lt;rw[hz3]at hbe5;have hlow5:Below w.heap.size w w5:=Hlow3.out.trans (hbx5.mono (by omega));have hstp5:=(MtI.ok (B:=B) (bm:=wr.heap.size+1) (gm:=wr.heap.size) (by omega) (by omega)).step Hmt3.out hbx5;have hxp5:=Hxp3.out.low hbx5;have hxd5:=(Hxr.out.low HB3.out).low hbx5;obtain⟨Bd,od,n2,f2,zs2,A2',c2',g2,us2,D2,d2,hAd,hyk,hbd5,l0,l1,l2,l3,l4,hr3,hr4⟩:=(Hd.out.low hlow5 hB).lt_at hiN;subst hAd;obtain⟨y,hy⟩:∃y,d[iN]=y:=⟨_,rfl⟩;have hlty:LtV w5 B y (.agg #[.bool n2,.int .i64 f2,.slice A2' zs2.length c2',.int .i64 g2,.slice D2 us2.length d2]):=by
       rw[<-hy,hyk];exact⟨A2',c2',D2,d2,rfl,hr3,hr4⟩
      have hltx:LtV w5 B ⟨!n1,.mk f1 zs1,.mk g1 us1⟩ (.agg #[.bool !n1,.int .i64 f1,.slice A1 zs1.length c1,.int .i64 g1,.slice D1 us1.length d1]):=⟨A1,c1,D1,d1,rfl,HR1.out.low hbx5 (by omega),HR2.out.low hbx5 (by omega)⟩;obtain⟨b1,hb1⟩:∃b,(eL [] ⟨!n1,.mk f1 zs1,.mk g1 us1⟩ y false).1=b:=⟨_,rfl⟩;obtain⟨m1,hm1⟩:∃m,(eL [] ⟨!n1,.mk f1 zs1,.mk g1 us1⟩ y false).2=m:=⟨_,rfl⟩;have hl1:eL [] ⟨!n1,.mk f1 zs1,.mk g1 us1⟩ y false=(b1,m1):=(by rw[<-hb1,<-hm1]);have htry:dX c d iN j false=(b1&&(bR d (c.eraseIdx j) (λn=>decide (n=iN)) 0 m1).1):=by
       unfold dX;rw[List.getElem?_eq_getElem hjc,List.getElem?_eq_getElem hiN,Hxk.out,hy];simp only[hl1]
      have hpx:=Hpat.out c[j] (List.getElem_mem hjc);rw[Hxk.out]at hpx;have hji2:¬((d.length:Int)<=(iN:Int)):=(by omega);have hbdl:Bd<w5.heap.size:=(by omega);have hFlt:∀k,MtF (wr.heap.size+1) wr.heap.size w5 k->k=wr.heap.size+1\/k=wr.heap.size:=λk hk=>HFl5 k ((MtI.ok (B:=B) (bm:=wr.heap.size+1) (gm:=wr.heap.size) (by omega) (by omega)).low [] w3 w5 Hmt3.out hbx5 |>.2 k hk)
      have Hl1:=Lh hl1;have Htry:=Lh htry;have Hy:=Lh hy;have Hlty:=Lh hlty;have Hltx:=Lh hltx;have Hstp5:=Lh hstp5;have Hxp5:=Lh hxp5;have Hxd5:=Lh hxd5;have Hlow5:=Lh hlow5;have Hbe5:=Lh hbe5;have Hbx5:=Lh hbx5;have HFlt:=Lh hFlt;clear hl1 hb1 hm1 htry hy hlty hltx hstp5 hxp5 hxd5 hlow5 hbe5 hbx5 hFlt hr3 hr4 hyk k0 k1 k2 k3 k4;refine rg 9 (λ_ w'=>Upd w5 w' (MtF (wr.heap.size+1) wr.heap.size w5)) ?_;intro wd hwd hbd;refine⟨?_,λhS=>?_⟩
      . exact Upd.low (hwd ▸ hbd) _
      refine tk 0 (.pointer (some ⟨wr.heap.size+1,0,none⟩)) hS ?_ λhS=>?_
      . intro w' L hn hw;have o0:=(Hxp5.out.upd hw (λe=>by have:=HFlt.out _ e;omega)).cell;simp[execOp,go_sem,o0]
      refine tk 1 (.agg #[.bool !n1,.int .i64 f1,.slice A1 zs1.length c1,.int .i64 g1,.slice D1 us1.length d1]) hS ?_ λhS=>?_
      . intro w' L hn hw;have o1:=(Hbe5.out.upd hw (λe=>by have:=HFlt.out _ e;omega)).cells;simp[execOp,go_sem,o1.1,o1.2.1,o1.2.2.1,o1.2.2.2.1,o1.2.2.2.2]
      refine tk 2 (.slice (some ⟨Bd,od,none⟩) d.length cd) hS ?_ λhS=>?_
      . intro w' L hn hw;have o2:=(Hxd5.out.upd hw (λe=>by have:=HFlt.out _ e;omega)).cell;simp[execOp,go_sem,o2]
      refine ta 3 (.int .i64 (iN:Nat)) hS λhS=>?_
      refine tk 4 (.pointer (some ⟨Bd,od+iN*5,none⟩)) hS ?_ λhS=>?_
      . intros;simp[execOp,go_sem,hiN,hji2]
      refine tk 5 (.agg #[.bool n2,.int .i64 f2,.slice A2' zs2.length c2',.int .i64 g2,.slice D2 us2.length d2]) hS ?_ λhS=>?_
      . intro w' L hn hw;have hb5:=hw.block Bd hbdl (λe=>by have:=HFlt.out _ e;omega);have y0:=(World.cell?_of_block (a:=⟨Bd,od+iN*5,none⟩) hb5).trans l0;have y1:=(World.cell?_of_block (a:=⟨Bd,od+iN*5+1,none⟩) hb5).trans l1;have y2:=(World.cell?_of_block (a:=⟨Bd,od+iN*5+2,none⟩) hb5).trans l2;have y3:=(World.cell?_of_block (a:=⟨Bd,od+iN*5+3,none⟩) hb5).trans l3;have y4:=(World.cell?_of_block (a:=⟨Bd,od+iN*5+4,none⟩) hb5).trans l4;simp[execOp,go_sem,y0,y1,y2,y3,y4]
      refine ta 6 (.bool false) hS λhS=>?_
      refine so 7 ?_;have hbd5':Below w5.heap.size w5 wd:=hwd ▸ hbd;have hsd:=(MtI.ok (B:=B) (bm:=wr.heap.size+1) (gm:=wr.heap.size) (by omega) (by omega)).step Hstp5.out.st hbd5';have hzd:wd.heap.size=w5.heap.size:=(by rw[hwd]);have hc7:=vA B (wr.heap.size+1) wr.heap.size (by omega) (by omega) ⟨!n1,.mk f1 zs1,.mk g1 us1⟩ y false _ _ [] wd hpx.1 hpx.2 (Hltx.out.low (hbd5'.mono (by omega))) (Hlty.out.low (hbd5'.mono (by omega))) (by omega) hsd.st;rw[Hl1.out]at hc7;refine aG ?_ hc7 ?_
      . simp[execOp,resolve,invoke,go_sem]
      rintro e w6' ⟨rfl,hst6⟩;refine⟨_,rfl,?_⟩;refine gS ?_ λhS=>?_
      . exact(Upd.low hbd5' _).trans hst6.upd (λi e=>.inl (((MtI.ok (B:=B) (bm:=wr.heap.size+1) (gm:=wr.heap.size) (by omega) (by omega)).low [] w5 wd Hstp5.out.st hbd5').2 i e))
      refine ta 8 (.bool (!b1)) hS λhS=>?_
      refine dn ?_;have hst56:=hsd.trans hst6;have hS':=hS;have Hu56:=Lh hS';have Hst56:=Lh hst56;have hz6:=hS.size;have hlow6':Below w.heap.size w w6':=Hlow5.out.trans (hS.toLow (by omega) (λk e=>by have:=HFlt.out k e;omega));have hxd6:=Hxd5.out.upd hS (λe=>by have:=HFlt.out _ e;omega);have hxp6:=Hxp5.out.upd hS (λe=>by have:=HFlt.out _ e;omega);have hbe6:=((Hbe.out.low HB3.out).low Hbx5.out).upd hS (λe=>by have:=HFlt.out _ e;omega);have Hlow6':=Lh hlow6';have Hxd6:=Lh hxd6;have Hxp6:=Lh hxp6;have Hbe6:=Lh hbe6;clear hst56 hS hS' hst6 hsd hbd5' hc7 hwd hbd hzd l0 l1 l2 l3 l4 hlow6' hxd6 hxp6 hbe6;cases b1 with
      | false=>
       have hno:dX c d iN j false=false:=(by rw[Htry.out];rfl);have Hno:=Lh hno;clear hno;go_wp2_with fail;go_roundw
       case rel=>exact⟨1,by omega,rfl,(λ_=>Hno.out),(λh=>by omega),Hlow6'.out,Hxd6.out,Hbe6.out⟩
       case measure=>simp[intOf]
      | true=>
       have htry2:dX c d iN j false=(bR d (c.eraseIdx j) (λn=>decide (n=iN)) 0 m1).1:=(by rw[Htry.out];rfl);have Htry2:=Lh htry2;clear htry2;have hwr:=pA c j (.slice (some ⟨Bc,oc,none⟩) c.length cc) B w6' (Hc.out.low (Hlow6'.out) hB) (by omega) hjc (by omega);have Hwr:=Lh hwr;clear hwr;have hmm:= @run_makeMap Try.prog;go_upto_region 15 with(
        go_at_call 64
        refine Hwr.out.mono ?_;rintro e w8 ⟨vr,rows,rfl,hown8,hrl8,hb8⟩;obtain⟨Av,cv,hvr8,-,-⟩:=hown8.form;subst hvr8;have Hown8:=Lh hown8;have Hrl8:=Lh hrl8;have Hb8:=Lh hb8;clear hown8 hrl8 hb8)
       have hxr9:aU w8.heap.size 38 (.slice Av rows.length cv) (w8.alloc (.cells #[.slice Av rows.length cv] 38)):=heap_alloc_new w8 _;have hb9:=aD w8 (.cells #[.slice Av rows.length cv] 38);generalize w8.alloc (.cells #[.slice Av rows.length cv] 38)=w9 at hxr9 hb9 ⊢;have hz8:=Hb8.out.size;have hz9:=hb9.size;have hr9l:=hxr9.lt;have hmg:bK (w9.alloc (.map #[] 0)) w9.heap.size cE (λx=>((λ_=>none:Int->Option Bool) x).map Value.bool):=bK.made w9 cE;have hbm:=aD w9 (.map #[] 0);have hzm:(w9.alloc (.map #[] 0)).heap.size=w9.heap.size+1:=(by simp);have Hxr9:=Lh hxr9;have Hb9:=Lh hb9;have Hmg:=Lh hmg;have Hbm:=Lh hbm;have Hzm:=Lh hzm;clear hxr9 hb9 hmg hbm hzm;go_upto_region 16 with(
        refine lJ rfl (.tmp 82) (.tmp 83) _ rfl fT Try.underlying125 rfl (iN:Int) rfl (.bool true) rfl (by exact Hmg.out) ?_;intro w10 hm10 hu10;have Hm10:=Lh hm10;have Hu10:=Lh hu10;clear hm10 hu10)
       clear hmm;have hum10:gK w10 w9.heap.size (λn=>decide (n=iN)):=by
        have h0:=kU (U:=λ_=>none) (used:=λ_=>false) (λn=>rfl) iN true Hm10.out;have e:(λi=>if i=iN then true else false)=(λn=>decide (n=iN)):=by
         funext i
         by_cases hi:i=iN <;> simp[hi]
        rw[e]at h0;exact h0
       have hlow10:Below w9.heap.size w9 w10:=Hbm.out.trans (Hu10.out.toLow (by have:=Hzm.out;omega) (by rintro k rfl;exact Nat.le_refl _));have hxu11:aU w10.heap.size 125 (.map (some w9.heap.size)) (w10.alloc (.cells #[.map (some w9.heap.size)] 125)):=heap_alloc_new w10 _;have hb11:=aD w10 (.cells #[.map (some w9.heap.size)] 125);have hz11:(w10.alloc (.cells #[.map (some w9.heap.size)] 125)).heap.size=w10.heap.size+1:=(by simp);generalize w10.alloc (.cells #[.map (some w9.heap.size)] 125)=w11 at hxu11 hb11 hz11 ⊢;have hz10:=hlow10.size;have hml:=Hmg.out.lt;have hgl9:w9.heap.size<w10.heap.size:=hum10.lt;have Hxu11:=Lh hxu11;have Hb11:=Lh hb11;have Hum10:=Lh hum10;have Hlow10:=Lh hlow10;have Hz11:=Lh hz11;clear hxu11 hb11 hum10 hlow10 hml hz11;go_upto_region 17 with fail
       have hxt12:aU w11.heap.size 3 (.int .i64 0) (w11.alloc (.cells #[.int .i64 0] 3)):=heap_alloc_new w11 _;have hb12:=aD w11 (.cells #[.int .i64 0] 3);have hz12:(w11.alloc (.cells #[.int .i64 0] 3)).heap.size=w11.heap.size+1:=(by simp);generalize w11.alloc (.cells #[.int .i64 0] 3)=w12 at hxt12 hb12 hz12 ⊢;have Hxt12:=Lh hxt12;have Hb12:=Lh hb12;have Hz12:=Lh hz12;clear hxt12 hb12 hz12;have hf0:(w12.alloc (.cells #[.nilFunc] 67)).cell? ⟨w12.heap.size,0,none⟩=some .nilFunc:=cell_of_row (w12.alloc (.cells #[.nilFunc] 67)) w12.heap.size 0 _ _ _ (heap_alloc_new w12 _);have hf1:=λo=>frozen_of_row (w12.alloc (.cells #[.nilFunc] 67)) w12.heap.size o _ _ (heap_alloc_new w12 _)
       go_upto_region 19 with fail
       clear hf0 hf1;obtain⟨sc,hsc⟩:∃sc:SeC,sc=⟨B,wr.heap.size+1,wr.heap.size,w9.heap.size,w8.heap.size,w.heap.size+1,w10.heap.size,w11.heap.size,wr.heap.size+1+1,w12.heap.size,c.eraseIdx j,d,.slice Av rows.length cv,.slice (some ⟨Bd,od,none⟩) d.length cd,rows⟩:=⟨_,rfl⟩;have hxs13:aU w12.heap.size 67 sc.func (w12.alloc (.cells #[sc.func] 67)):=heap_alloc_new w12 _;have hb13:=aD w12 (.cells #[sc.func] 67);have hfn:sc.func=.func (.func 80) #[] #[.pointer (some ⟨w8.heap.size,0,none⟩),.pointer (some ⟨w.heap.size+1,0,none⟩),.pointer (some ⟨w10.heap.size,0,none⟩),.pointer (some ⟨w11.heap.size,0,none⟩),.pointer (some ⟨wr.heap.size+1+1,0,none⟩),.pointer (some ⟨w12.heap.size,0,none⟩)]:=(by rw[hsc];rfl);rw[<-hfn];generalize w12.alloc (.cells #[sc.func] 67)=w13 at hxs13 hb13 ⊢;have hz12:=Hz12.out;have hz11:=Hz11.out;have hz10:=Hlow10.out.size;have hgl9:=Hum10.out.lt;have hb612:Below w6'.heap.size w6' w13:=Hb8.out.trans ((Hb9.out.mono (by omega)).trans ((Hlow10.out.mono (by omega)).trans ((Hb11.out.mono (by omega)).trans ((Hb12.out.mono (by omega)).trans (hb13.mono (by omega))))));have hb913:Below w9.heap.size w9 w13:=Hlow10.out.trans ((Hb11.out.mono (by omega)).trans ((Hb12.out.mono (by omega)).trans (hb13.mono (by omega))));have hb1013:Below w10.heap.size w10 w13:=Hb11.out.trans ((Hb12.out.mono (by omega)).trans (hb13.mono (by omega)));have hb1113:Below w11.heap.size w11 w13:=Hb12.out.trans (hb13.mono (by omega));have hb813:Below w8.heap.size w8 w13:=Hb9.out.trans (hb913.mono (by omega));have hlow13:Below w.heap.size w w13:=Hlow6'.out.trans (hb612.mono (by omega));have hok:=MtI.ok (B:=B) (bm:=wr.heap.size+1) (gm:=wr.heap.size) (by omega) (by omega);have hF13:∀k,MtF (wr.heap.size+1) wr.heap.size w13 k->k<w6'.heap.size/\((k=wr.heap.size+1\/k=wr.heap.size)\/w5.heap.size<=k):=λk hk=>by
        have h1:=(hok.low m1 w6' w13 Hst56.out.st hb612).2 k hk;exact⟨hok.lt m1 w6' k Hst56.out.st h1,(Hst56.out.grow k h1).imp (HFlt.out k) id⟩
       have hse:SeR sc (λn=>decide (n=iN)) 0 m1 w13:=by
        rw[hsc];refine⟨by show B<=wr.heap.size+1;omega,by show B<=wr.heap.size;omega,by show B<=w9.heap.size;omega,by show B<=w11.heap.size;omega,(hok.low m1 w6' w13 Hst56.out.st hb612).1,Hum10.out.upd (Upd.low hb1013 (λ_=>False)) id,Hxr9.out.low hb913,Hxd6.out.low hb612,Hxu11.out.low hb1113,Hxt12.out.low hb13,Hxp6.out.low hb612,(by have h:=hxs13;rw[hsc]at h;exact h),(Hown8.out.low hb813).base_le (Nat.zero_le _),?_,Hrl8.out.low (hb813.mono (by omega)),Hd.out.low hlow13 hB⟩;intro b hb hf;obtain⟨h1,h2⟩:=hF13 b hf;rcases hb with e | e | e | e | e | e | e | e
        . have e:b=w8.heap.size:=e;omega
        . have e:b=w.heap.size+1:=e;omega
        . have e:b=w10.heap.size:=e;omega
        . have e:b=w11.heap.size:=e;omega
        . have e:b=wr.heap.size+1+1:=e;omega
        . have e:b=w12.heap.size:=e;omega
        . have e:b=w9.heap.size:=e;omega
        have:=(Hown8.out.lt b e).1;omega
       have hF13b:∀k,SeF sc w13 k->(wr.heap.size<=k)/\k≠w.heap.size+1/\k≠wo.heap.size:=λk hk=>by
        rw[hsc]at hk;rcases hk with e | e | e
        . obtain⟨h1,h2⟩:=hF13 k e;omega
        . have e:k=w9.heap.size:=e;omega
        have e:k=w11.heap.size:=e;omega
       have f13:=hxs13.cell;rw[hfn]at f13;have hsea:=rH sc (by rw[hsc];exact λx hx=>Hpat.out x (List.mem_of_mem_eraseIdx hx)) (by rw[hsc];show (c.eraseIdx j).length<=_;have:=List.length_eraseIdx_le c j;omega) (by rw[hsc];show d.length<=_;omega) (sc.rest.length+1) 0 (λn=>decide (n=iN)) 0 m1 w13 (by omega) (Nat.zero_le _) (by omega) hse;rw[List.drop_zero]at hsea;have hsea2:Calls Try.prog 80 #[.int .i64 0,.pointer (some ⟨w8.heap.size,0,none⟩),.pointer (some ⟨w.heap.size+1,0,none⟩),.pointer (some ⟨w10.heap.size,0,none⟩),.pointer (some ⟨w11.heap.size,0,none⟩),.pointer (some ⟨wr.heap.size+1+1,0,none⟩),.pointer (some ⟨w12.heap.size,0,none⟩)] w13
        (aG3 sc (bR d (c.eraseIdx j) (λn=>decide (n=iN)) 0 m1) (λn=>decide (n=iN)) m1 w13):=by
        rw[hsc]at hsea ⊢;exact hsea
       have Hsea:=Lh hsea2;have Hbe13:=Lh (Hbe6.out.low hb612);have Hlow13:=Lh hlow13;have HF13b:=Lh hF13b;have Hsc:=Lh hsc;have hz13:=hb13.size;have hz13w:=hlow13.size;clear hz11 hz12 hsea hsea2 hF13b hF13 hok hb612 hb913 hb1013 hb1113 hb813 hlow13 hse hxs13 hb13 hfn hsc;clear Hxr9 Hb9 Hmg Hbm Hzm Hm10 Hu10 Hxu11 Hb11 Hum10 Hlow10 Hxt12 Hb12 Hown8 Hrl8;cases hr:(bR d (c.eraseIdx j) (λn=>decide (n=iN)) 0 m1).1 with
       | false=>
        have hno:dX c d iN j false=false:=(by rw[Htry2.out,hr]);have Hno:=Lh hno;have Hr:=Lh hr;clear hno hr;go_wp2_with (
         go_at_call 80
         refine Hsea.out.mono ?_;rintro e w14 ⟨rfl,hst14,used14,m14,hsr14,-⟩;rw[Hr.out];have Hst14:=Lh hst14;have Hsr14:=Lh hsr14;clear hst14 hsr14)
        go_roundw
        case rel=>
         have hxd14:=Hsr14.out.xd;rw[Hsc.out]at hxd14;exact⟨1,by omega,rfl,(λ_=>Hno.out),(λh=>by omega),Hlow13.out.trans (Hst14.out.upd.toLow (by omega) (λk e=>by have:=(HF13b.out k e).1;omega)),hxd14,Hbe13.out.upd Hst14.out.upd (λe=>(HF13b.out _ e).2.2 rfl)⟩
        case measure=>simp[intOf]
       | true=>
        have hcs:iK s c d=some (d.eraseIdx iN):=by
         rw[Hcm2.out,if_pos];refine eB hjc ?_;have h1:dX c d iN j false=true:=(by rw[Htry2.out,hr]);unfold pX;rw[h1];rfl
        have Hcs:=Lh hcs;have Hr:=Lh hr;clear hcs hr;go_upto_region 20 with(
         go_at_call 80
         refine Hsea.out.mono ?_;rintro e w14 ⟨rfl,hst14,used14,m14,hsr14,-⟩;rw[Hr.out];have Hst14:=Lh hst14;have Hsr14:=Lh hsr14;clear hst14 hsr14)
        have hxd14:=Hsr14.out.xd;have hrd14:=Hsr14.out.rd;have hsz14:=Hsr14.out.sz;rw[Hsc.out]at hxd14 hrd14 hsz14;have hrd14':Rd w14 B (aT d) (.slice (some ⟨Bd,od,none⟩) d.length cd):=hrd14;have hsz14':B<=w14.heap.size:=hsz14;have x14:w14.cell? ⟨w.heap.size+1,0,none⟩=some (.slice (some ⟨Bd,od,none⟩) d.length cd):=hxd14.cell;have hlow14:Below w.heap.size w w14:=Hlow13.out.trans (Hst14.out.upd.toLow (by omega) (λk e=>by have:=(HF13b.out k e).1;omega));have hw14:=cT d iN _ (λb=>b<B) w14 (hrd14'.rdP hsz14') hiN (by omega);have Hw14:=Lh hw14;have Hlow14:=Lh hlow14;have hz14:=hlow14.size;clear hxd14 hrd14 hrd14' hsz14 hw14 hlow14 f13;go_wp2_with (
         go_at_call 64
         refine Hw14.out.mono ?_;rintro e w15 ⟨v15,rfl,hown15,hb15⟩;have Hown15:=Lh hown15;have Hb15:=Lh hb15;clear hown15 hb15)
        refine bodyPost_ret (v:=.tuple #[v15,.bool true]) (by simp[results,Try.results51,go_sem]) rfl ?_;rw[Hcs.out];refine⟨Hlow14.out.trans (Hb15.out.mono hz14),v15,rfl,λc' h=>?_⟩;obtain rfl:=Option.some.inj h;exact(Hown15.out.rd (by rw[List.length_map];have:=List.length_eraseIdx_le d iN;omega)).rd'
    . have hmm:= @run_makeMap Try.prog;go_upto_region 11 with fail
      clear hmm;obtain⟨hx1,hx2,hx3,hB3,hz3⟩:=fW wr (.map #[] 0) (.cells #[.map (some wr.heap.size),.slice none 0 0] 122) (.cells #[.pointer (some ⟨wr.heap.size+1,0,none⟩)] 120);generalize ((wr.alloc (.map #[] 0)).alloc (.cells #[.map (some wr.heap.size),.slice none 0 0] 122)).alloc (.cells #[.pointer (some ⟨wr.heap.size+1,0,none⟩)] 120)=w3 at hx1 hx2 hx3 hB3 hz3 ⊢;have hxp3:aU (wr.heap.size+1+1) 120 (.pointer (some ⟨wr.heap.size+1,0,none⟩)) w3:=hx3;have hmr3:=MtR.empty (B:=B) (bm:=wr.heap.size+1) (gm:=wr.heap.size) hx2 hx1;have hmt3:MtI B (wr.heap.size+1) wr.heap.size [] w3:=⟨_,_,hmr3⟩;have HFl5:∀k,MtF (wr.heap.size+1) wr.heap.size w3 k->k=wr.heap.size+1\/k=wr.heap.size:=λk hk=>by
       rcases(hmr3.f_iff k).1 hk with e | e | e
       . exact .inl e
       . exact .inr e
       cases e
      have hlow3:Below w.heap.size w w3:=Hlr.out.trans (hB3.mono (by omega));obtain⟨Bc,oc,n1,f1,zs1,A1,c1,g1,us1,D1,d1,hAc,hxk,hbc,k0,k1,k2,k3,k4,hr1,hr2⟩:=(Hc.out.low hlow3 hB).lt_at hjc;subst hAc;have Hxk:=Lh hxk;have HR1:=Lh hr1;have HR2:=Lh hr2;have Hxp3:=Lh hxp3;have Hmt3:=Lh hmt3;have Hlow3:=Lh hlow3;have HB3:=Lh hB3;clear hx1 hx2 hx3 hB3 hxp3 hmt3 hlow3 hxk hr1 hr2;go_upto_region 13 with fail
      have hbx5:=aD w3 (.cells #[.bool !n1,.int .i64 f1,.slice A1 zs1.length c1,.int .i64 g1,.slice D1 us1.length d1] 53);have hbe5:eT w3.heap.size 53 (.bool !n1) (.int .i64 f1) (.slice A1 zs1.length c1) (.int .i64 g1) (.slice D1 us1.length d1) (w3.alloc (.cells #[.bool !n1,.int .i64 f1,.slice A1 zs1.length c1,.int .i64 g1,.slice D1 us1.length d1] 53)):=heap_alloc_new w3 _;generalize w3.alloc (.cells #[.bool !n1,.int .i64 f1,.slice A1 zs1.length c1,.int .i64 g1,.slice D1 us1.length d1] 53)=w5 at hbx5 hbe5 ⊢;have hz5:=hbx5.size;have hx5l:=hbe5.lt;rw[hz3]at hbe5;have hlow5:Below w.heap.size w w5:=Hlow3.out.trans (hbx5.mono (by omega));have hstp5:=(MtI.ok (B:=B) (bm:=wr.heap.size+1) (gm:=wr.heap.size) (by omega) (by omega)).step Hmt3.out hbx5;have hxp5:=Hxp3.out.low hbx5;have hxd5:=(Hxr.out.low HB3.out).low hbx5;obtain⟨Bd,od,n2,f2,zs2,A2',c2',g2,us2,D2,d2,hAd,hyk,hbd5,l0,l1,l2,l3,l4,hr3,hr4⟩:=(Hd.out.low hlow5 hB).lt_at hiN;subst hAd;obtain⟨y,hy⟩:∃y,d[iN]=y:=⟨_,rfl⟩;have hlty:LtV w5 B y (.agg #[.bool n2,.int .i64 f2,.slice A2' zs2.length c2',.int .i64 g2,.slice D2 us2.length d2]):=by
       rw[<-hy,hyk];exact⟨A2',c2',D2,d2,rfl,hr3,hr4⟩
      have hltx:LtV w5 B ⟨!n1,.mk f1 zs1,.mk g1 us1⟩ (.agg #[.bool !n1,.int .i64 f1,.slice A1 zs1.length c1,.int .i64 g1,.slice D1 us1.length d1]):=⟨A1,c1,D1,d1,rfl,HR1.out.low hbx5 (by omega),HR2.out.low hbx5 (by omega)⟩;obtain⟨b1,hb1⟩:∃b,(eL [] ⟨!n1,.mk f1 zs1,.mk g1 us1⟩ y true).1=b:=⟨_,rfl⟩;obtain⟨m1,hm1⟩:∃m,(eL [] ⟨!n1,.mk f1 zs1,.mk g1 us1⟩ y true).2=m:=⟨_,rfl⟩;have hl1:eL [] ⟨!n1,.mk f1 zs1,.mk g1 us1⟩ y true=(b1,m1):=(by rw[<-hb1,<-hm1]);have htry:dX c d iN j true=(b1&&(bR d (c.eraseIdx j) (λn=>decide (n=iN)) 0 m1).1):=by
       unfold dX;rw[List.getElem?_eq_getElem hjc,List.getElem?_eq_getElem hiN,Hxk.out,hy];simp only[hl1]
      have hpx:=Hpat.out c[j] (List.getElem_mem hjc);rw[Hxk.out]at hpx;have hji2:¬((d.length:Int)<=(iN:Int)):=(by omega);have hbdl:Bd<w5.heap.size:=(by omega);have hFlt:∀k,MtF (wr.heap.size+1) wr.heap.size w5 k->k=wr.heap.size+1\/k=wr.heap.size:=λk hk=>HFl5 k ((MtI.ok (B:=B) (bm:=wr.heap.size+1) (gm:=wr.heap.size) (by omega) (by omega)).low [] w3 w5 Hmt3.out hbx5 |>.2 k hk)
      have Hl1:=Lh hl1;have Htry:=Lh htry;have Hy:=Lh hy;have Hlty:=Lh hlty;have Hltx:=Lh hltx;have Hstp5:=Lh hstp5;have Hxp5:=Lh hxp5;have Hxd5:=Lh hxd5;have Hlow5:=Lh hlow5;have Hbe5:=Lh hbe5;have Hbx5:=Lh hbx5;have HFlt:=Lh hFlt;clear hl1 hb1 hm1 htry hy hlty hltx hstp5 hxp5 hxd5 hlow5 hbe5 hbx5 hFlt hr3 hr4 hyk k0 k1 k2 k3 k4;refine rg 9 (λ_ w'=>Upd w5 w' (MtF (wr.heap.size+1) wr.heap.size w5)) ?_;intro wd hwd hbd;refine⟨?_,λhS=>?_⟩
      . exact Upd.low (hwd ▸ hbd) _
      refine tk 0 (.pointer (some ⟨wr.heap.size+1,0,none⟩)) hS ?_ λhS=>?_
      . intro w' L hn hw;have o0:=(Hxp5.out.upd hw (λe=>by have:=HFlt.out _ e;omega)).cell;simp[execOp,go_sem,o0]
      refine tk 1 (.agg #[.bool !n1,.int .i64 f1,.slice A1 zs1.length c1,.int .i64 g1,.slice D1 us1.length d1]) hS ?_ λhS=>?_
      . intro w' L hn hw;have o1:=(Hbe5.out.upd hw (λe=>by have:=HFlt.out _ e;omega)).cells;simp[execOp,go_sem,o1.1,o1.2.1,o1.2.2.1,o1.2.2.2.1,o1.2.2.2.2]
      refine tk 2 (.slice (some ⟨Bd,od,none⟩) d.length cd) hS ?_ λhS=>?_
      . intro w' L hn hw;have o2:=(Hxd5.out.upd hw (λe=>by have:=HFlt.out _ e;omega)).cell;simp[execOp,go_sem,o2]
      refine ta 3 (.int .i64 (iN:Nat)) hS λhS=>?_
      refine tk 4 (.pointer (some ⟨Bd,od+iN*5,none⟩)) hS ?_ λhS=>?_
      . intros;simp[execOp,go_sem,hiN,hji2]
      refine tk 5 (.agg #[.bool n2,.int .i64 f2,.slice A2' zs2.length c2',.int .i64 g2,.slice D2 us2.length d2]) hS ?_ λhS=>?_
      . intro w' L hn hw;have hb5:=hw.block Bd hbdl (λe=>by have:=HFlt.out _ e;omega);have y0:=(World.cell?_of_block (a:=⟨Bd,od+iN*5,none⟩) hb5).trans l0;have y1:=(World.cell?_of_block (a:=⟨Bd,od+iN*5+1,none⟩) hb5).trans l1;have y2:=(World.cell?_of_block (a:=⟨Bd,od+iN*5+2,none⟩) hb5).trans l2;have y3:=(World.cell?_of_block (a:=⟨Bd,od+iN*5+3,none⟩) hb5).trans l3;have y4:=(World.cell?_of_block (a:=⟨Bd,od+iN*5+4,none⟩) hb5).trans l4;simp[execOp,go_sem,y0,y1,y2,y3,y4]
      refine ta 6 (.bool true) hS λhS=>?_
      refine so 7 ?_;have hbd5':Below w5.heap.size w5 wd:=hwd ▸ hbd;have hsd:=(MtI.ok (B:=B) (bm:=wr.heap.size+1) (gm:=wr.heap.size) (by omega) (by omega)).step Hstp5.out.st hbd5';have hzd:wd.heap.size=w5.heap.size:=(by rw[hwd]);have hc7:=vA B (wr.heap.size+1) wr.heap.size (by omega) (by omega) ⟨!n1,.mk f1 zs1,.mk g1 us1⟩ y true _ _ [] wd hpx.1 hpx.2 (Hltx.out.low (hbd5'.mono (by omega))) (Hlty.out.low (hbd5'.mono (by omega))) (by omega) hsd.st;rw[Hl1.out]at hc7;refine aG ?_ hc7 ?_
      . simp[execOp,resolve,invoke,go_sem]
      rintro e w6' ⟨rfl,hst6⟩;refine⟨_,rfl,?_⟩;refine gS ?_ λhS=>?_
      . exact(Upd.low hbd5' _).trans hst6.upd (λi e=>.inl (((MtI.ok (B:=B) (bm:=wr.heap.size+1) (gm:=wr.heap.size) (by omega) (by omega)).low [] w5 wd Hstp5.out.st hbd5').2 i e))
      refine ta 8 (.bool (!b1)) hS λhS=>?_
      refine dn ?_;have hst56:=hsd.trans hst6;have hS':=hS;have Hu56:=Lh hS';have Hst56:=Lh hst56;have hz6:=hS.size;have hlow6':Below w.heap.size w w6':=Hlow5.out.trans (hS.toLow (by omega) (λk e=>by have:=HFlt.out k e;omega));have hxd6:=Hxd5.out.upd hS (λe=>by have:=HFlt.out _ e;omega);have hxp6:=Hxp5.out.upd hS (λe=>by have:=HFlt.out _ e;omega);have hbe6:=((Hbe.out.low HB3.out).low Hbx5.out).upd hS (λe=>by have:=HFlt.out _ e;omega);have Hlow6':=Lh hlow6';have Hxd6:=Lh hxd6;have Hxp6:=Lh hxp6;have Hbe6:=Lh hbe6;clear hst56 hS hS' hst6 hsd hbd5' hc7 hwd hbd hzd l0 l1 l2 l3 l4 hlow6' hxd6 hxp6 hbe6;cases b1 with
      | false=>
       have hno:dX c d iN j true=false:=(by rw[Htry.out];rfl);have Hno:=Lh hno;clear hno;go_wp2_with fail;go_roundw
       case rel=>exact⟨2,by omega,rfl,(λ_=>Ht1.out (by omega)),(λ_=>Hno.out),Hlow6'.out,Hxd6.out,Hbe6.out⟩
       case measure=>simp[intOf]
      | true=>
       have htry2:dX c d iN j true=(bR d (c.eraseIdx j) (λn=>decide (n=iN)) 0 m1).1:=(by rw[Htry.out];rfl);have Htry2:=Lh htry2;clear htry2;have hwr:=pA c j (.slice (some ⟨Bc,oc,none⟩) c.length cc) B w6' (Hc.out.low (Hlow6'.out) hB) (by omega) hjc (by omega);have Hwr:=Lh hwr;clear hwr;have hmm:= @run_makeMap Try.prog;go_upto_region 15 with(
        go_at_call 64
        refine Hwr.out.mono ?_;rintro e w8 ⟨vr,rows,rfl,hown8,hrl8,hb8⟩;obtain⟨Av,cv,hvr8,-,-⟩:=hown8.form;subst hvr8;have Hown8:=Lh hown8;have Hrl8:=Lh hrl8;have Hb8:=Lh hb8;clear hown8 hrl8 hb8)
       have hxr9:aU w8.heap.size 38 (.slice Av rows.length cv) (w8.alloc (.cells #[.slice Av rows.length cv] 38)):=heap_alloc_new w8 _;have hb9:=aD w8 (.cells #[.slice Av rows.length cv] 38);generalize w8.alloc (.cells #[.slice Av rows.length cv] 38)=w9 at hxr9 hb9 ⊢;have hz8:=Hb8.out.size;have hz9:=hb9.size;have hr9l:=hxr9.lt;have hmg:bK (w9.alloc (.map #[] 0)) w9.heap.size cE (λx=>((λ_=>none:Int->Option Bool) x).map Value.bool):=bK.made w9 cE;have hbm:=aD w9 (.map #[] 0);have hzm:(w9.alloc (.map #[] 0)).heap.size=w9.heap.size+1:=(by simp);have Hxr9:=Lh hxr9;have Hb9:=Lh hb9;have Hmg:=Lh hmg;have Hbm:=Lh hbm;have Hzm:=Lh hzm;clear hxr9 hb9 hmg hbm hzm;go_upto_region 16 with(
        refine lJ rfl (.tmp 82) (.tmp 83) _ rfl fT Try.underlying125 rfl (iN:Int) rfl (.bool true) rfl (by exact Hmg.out) ?_;intro w10 hm10 hu10;have Hm10:=Lh hm10;have Hu10:=Lh hu10;clear hm10 hu10)
       clear hmm;have hum10:gK w10 w9.heap.size (λn=>decide (n=iN)):=by
        have h0:=kU (U:=λ_=>none) (used:=λ_=>false) (λn=>rfl) iN true Hm10.out;have e:(λi=>if i=iN then true else false)=(λn=>decide (n=iN)):=by
         funext i
         by_cases hi:i=iN <;> simp[hi]
        rw[e]at h0;exact h0
       have hlow10:Below w9.heap.size w9 w10:=Hbm.out.trans (Hu10.out.toLow (by have:=Hzm.out;omega) (by rintro k rfl;exact Nat.le_refl _));have hxu11:aU w10.heap.size 125 (.map (some w9.heap.size)) (w10.alloc (.cells #[.map (some w9.heap.size)] 125)):=heap_alloc_new w10 _;have hb11:=aD w10 (.cells #[.map (some w9.heap.size)] 125);have hz11:(w10.alloc (.cells #[.map (some w9.heap.size)] 125)).heap.size=w10.heap.size+1:=(by simp);generalize w10.alloc (.cells #[.map (some w9.heap.size)] 125)=w11 at hxu11 hb11 hz11 ⊢;have hz10:=hlow10.size;have hml:=Hmg.out.lt;have hgl9:w9.heap.size<w10.heap.size:=hum10.lt;have Hxu11:=Lh hxu11;have Hb11:=Lh hb11;have Hum10:=Lh hum10;have Hlow10:=Lh hlow10;have Hz11:=Lh hz11;clear hxu11 hb11 hum10 hlow10 hml hz11;go_upto_region 17 with fail
       have hxt12:aU w11.heap.size 3 (.int .i64 0) (w11.alloc (.cells #[.int .i64 0] 3)):=heap_alloc_new w11 _;have hb12:=aD w11 (.cells #[.int .i64 0] 3);have hz12:(w11.alloc (.cells #[.int .i64 0] 3)).heap.size=w11.heap.size+1:=(by simp);generalize w11.alloc (.cells #[.int .i64 0] 3)=w12 at hxt12 hb12 hz12 ⊢;have Hxt12:=Lh hxt12;have Hb12:=Lh hb12;have Hz12:=Lh hz12;clear hxt12 hb12 hz12;have hf0:(w12.alloc (.cells #[.nilFunc] 67)).cell? ⟨w12.heap.size,0,none⟩=some .nilFunc:=cell_of_row (w12.alloc (.cells #[.nilFunc] 67)) w12.heap.size 0 _ _ _ (heap_alloc_new w12 _);have hf1:=λo=>frozen_of_row (w12.alloc (.cells #[.nilFunc] 67)) w12.heap.size o _ _ (heap_alloc_new w12 _)
       go_upto_region 19 with fail
       clear hf0 hf1;obtain⟨sc,hsc⟩:∃sc:SeC,sc=⟨B,wr.heap.size+1,wr.heap.size,w9.heap.size,w8.heap.size,w.heap.size+1,w10.heap.size,w11.heap.size,wr.heap.size+1+1,w12.heap.size,c.eraseIdx j,d,.slice Av rows.length cv,.slice (some ⟨Bd,od,none⟩) d.length cd,rows⟩:=⟨_,rfl⟩;have hxs13:aU w12.heap.size 67 sc.func (w12.alloc (.cells #[sc.func] 67)):=heap_alloc_new w12 _;have hb13:=aD w12 (.cells #[sc.func] 67);have hfn:sc.func=.func (.func 80) #[] #[.pointer (some ⟨w8.heap.size,0,none⟩),.pointer (some ⟨w.heap.size+1,0,none⟩),.pointer (some ⟨w10.heap.size,0,none⟩),.pointer (some ⟨w11.heap.size,0,none⟩),.pointer (some ⟨wr.heap.size+1+1,0,none⟩),.pointer (some ⟨w12.heap.size,0,none⟩)]:=(by rw[hsc];rfl);rw[<-hfn];generalize w12.alloc (.cells #[sc.func] 67)=w13 at hxs13 hb13 ⊢;have hz12:=Hz12.out;have hz11:=Hz11.out;have hz10:=Hlow10.out.size;have hgl9:=Hum10.out.lt;have hb612:Below w6'.heap.size w6' w13:=Hb8.out.trans ((Hb9.out.mono (by omega)).trans ((Hlow10.out.mono (by omega)).trans ((Hb11.out.mono (by omega)).trans ((Hb12.out.mono (by omega)).trans (hb13.mono (by omega))))));have hb913:Below w9.heap.size w9 w13:=Hlow10.out.trans ((Hb11.out.mono (by omega)).trans ((Hb12.out.mono (by omega)).trans (hb13.mono (by omega))));have hb1013:Below w10.heap.size w10 w13:=Hb11.out.trans ((Hb12.out.mono (by omega)).trans (hb13.mono (by omega)));have hb1113:Below w11.heap.size w11 w13:=Hb12.out.trans (hb13.mono (by omega));have hb813:Below w8.heap.size w8 w13:=Hb9.out.trans (hb913.mono (by omega));have hlow13:Below w.heap.size w w13:=Hlow6'.out.trans (hb612.mono (by omega));have hok:=MtI.ok (B:=B) (bm:=wr.heap.size+1) (gm:=wr.heap.size) (by omega) (by omega);have hF13:∀k,MtF (wr.heap.size+1) wr.heap.size w13 k->k<w6'.heap.size/\((k=wr.heap.size+1\/k=wr.heap.size)\/w5.heap.size<=k):=λk hk=>by
        have h1:=(hok.low m1 w6' w13 Hst56.out.st hb612).2 k hk;exact⟨hok.lt m1 w6' k Hst56.out.st h1,(Hst56.out.grow k h1).imp (HFlt.out k) id⟩
       have hse:SeR sc (λn=>decide (n=iN)) 0 m1 w13:=by
        rw[hsc];refine⟨by show B<=wr.heap.size+1;omega,by show B<=wr.heap.size;omega,by show B<=w9.heap.size;omega,by show B<=w11.heap.size;omega,(hok.low m1 w6' w13 Hst56.out.st hb612).1,Hum10.out.upd (Upd.low hb1013 (λ_=>False)) id,Hxr9.out.low hb913,Hxd6.out.low hb612,Hxu11.out.low hb1113,Hxt12.out.low hb13,Hxp6.out.low hb612,(by have h:=hxs13;rw[hsc]at h;exact h),(Hown8.out.low hb813).base_le (Nat.zero_le _),?_,Hrl8.out.low (hb813.mono (by omega)),Hd.out.low hlow13 hB⟩;intro b hb hf;obtain⟨h1,h2⟩:=hF13 b hf;rcases hb with e | e | e | e | e | e | e | e
        . have e:b=w8.heap.size:=e;omega
        . have e:b=w.heap.size+1:=e;omega
        . have e:b=w10.heap.size:=e;omega
        . have e:b=w11.heap.size:=e;omega
        . have e:b=wr.heap.size+1+1:=e;omega
        . have e:b=w12.heap.size:=e;omega
        . have e:b=w9.heap.size:=e;omega
        have:=(Hown8.out.lt b e).1;omega
       have hF13b:∀k,SeF sc w13 k->(wr.heap.size<=k)/\k≠w.heap.size+1/\k≠wo.heap.size:=λk hk=>by
        rw[hsc]at hk;rcases hk with e | e | e
        . obtain⟨h1,h2⟩:=hF13 k e;omega
        . have e:k=w9.heap.size:=e;omega
        have e:k=w11.heap.size:=e;omega
       have f13:=hxs13.cell;rw[hfn]at f13;have hsea:=rH sc (by rw[hsc];exact λx hx=>Hpat.out x (List.mem_of_mem_eraseIdx hx)) (by rw[hsc];show (c.eraseIdx j).length<=_;have:=List.length_eraseIdx_le c j;omega) (by rw[hsc];show d.length<=_;omega) (sc.rest.length+1) 0 (λn=>decide (n=iN)) 0 m1 w13 (by omega) (Nat.zero_le _) (by omega) hse;rw[List.drop_zero]at hsea;have hsea2:Calls Try.prog 80 #[.int .i64 0,.pointer (some ⟨w8.heap.size,0,none⟩),.pointer (some ⟨w.heap.size+1,0,none⟩),.pointer (some ⟨w10.heap.size,0,none⟩),.pointer (some ⟨w11.heap.size,0,none⟩),.pointer (some ⟨wr.heap.size+1+1,0,none⟩),.pointer (some ⟨w12.heap.size,0,none⟩)] w13
        (aG3 sc (bR d (c.eraseIdx j) (λn=>decide (n=iN)) 0 m1) (λn=>decide (n=iN)) m1 w13):=by
        rw[hsc]at hsea ⊢;exact hsea
       have Hsea:=Lh hsea2;have Hbe13:=Lh (Hbe6.out.low hb612);have Hlow13:=Lh hlow13;have HF13b:=Lh hF13b;have Hsc:=Lh hsc;have hz13:=hb13.size;have hz13w:=hlow13.size;clear hz11 hz12 hsea hsea2 hF13b hF13 hok hb612 hb913 hb1013 hb1113 hb813 hlow13 hse hxs13 hb13 hfn hsc;clear Hxr9 Hb9 Hmg Hbm Hzm Hm10 Hu10 Hxu11 Hb11 Hum10 Hlow10 Hxt12 Hb12 Hown8 Hrl8;cases hr:(bR d (c.eraseIdx j) (λn=>decide (n=iN)) 0 m1).1 with
       | false=>
        have hno:dX c d iN j true=false:=(by rw[Htry2.out,hr]);have Hno:=Lh hno;have Hr:=Lh hr;clear hno hr;go_wp2_with (
         go_at_call 80
         refine Hsea.out.mono ?_;rintro e w14 ⟨rfl,hst14,used14,m14,hsr14,-⟩;rw[Hr.out];have Hst14:=Lh hst14;have Hsr14:=Lh hsr14;clear hst14 hsr14)
        go_roundw
        case rel=>
         have hxd14:=Hsr14.out.xd;rw[Hsc.out]at hxd14;exact⟨2,by omega,rfl,(λ_=>Ht1.out (by omega)),(λ_=>Hno.out),Hlow13.out.trans (Hst14.out.upd.toLow (by omega) (λk e=>by have:=(HF13b.out k e).1;omega)),hxd14,Hbe13.out.upd Hst14.out.upd (λe=>(HF13b.out _ e).2.2 rfl)⟩
        case measure=>simp[intOf]
       | true=>
        have hcs:iK s c d=some (d.eraseIdx iN):=by
         rw[Hcm2.out,if_pos];refine eB hjc ?_;have h1:dX c d iN j true=true:=(by rw[Htry2.out,hr]);unfold pX;rw[h1];simp
        have Hcs:=Lh hcs;have Hr:=Lh hr;clear hcs hr;go_upto_region 20 with(
         go_at_call 80
         refine Hsea.out.mono ?_;rintro e w14 ⟨rfl,hst14,used14,m14,hsr14,-⟩;rw[Hr.out];have Hst14:=Lh hst14;have Hsr14:=Lh hsr14;clear hst14 hsr14)
        have hxd14:=Hsr14.out.xd;have hrd14:=Hsr14.out.rd;have hsz14:=Hsr14.out.sz;rw[Hsc.out]at hxd14 hrd14 hsz14;have hrd14':Rd w14 B (aT d) (.slice (some ⟨Bd,od,none⟩) d.length cd):=hrd14;have hsz14':B<=w14.heap.size:=hsz14;have x14:w14.cell? ⟨w.heap.size+1,0,none⟩=some (.slice (some ⟨Bd,od,none⟩) d.length cd):=hxd14.cell;have hlow14:Below w.heap.size w w14:=Hlow13.out.trans (Hst14.out.upd.toLow (by omega) (λk e=>by have:=(HF13b.out k e).1;omega));have hw14:=cT d iN _ (λb=>b<B) w14 (hrd14'.rdP hsz14') hiN (by omega);have Hw14:=Lh hw14;have Hlow14:=Lh hlow14;have hz14:=hlow14.size;clear hxd14 hrd14 hrd14' hsz14 hw14 hlow14 f13;go_wp2_with (
         go_at_call 64
         refine Hw14.out.mono ?_;rintro e w15 ⟨v15,rfl,hown15,hb15⟩;have Hown15:=Lh hown15;have Hb15:=Lh hb15;clear hown15 hb15)
        refine bodyPost_ret (v:=.tuple #[v15,.bool true]) (by simp[results,Try.results51,go_sem]) rfl ?_;rw[Hcs.out];refine⟨Hlow14.out.trans (Hb15.out.mono hz14),v15,rfl,λc' h=>?_⟩;obtain rfl:=Option.some.inj h;exact(Hown15.out.rd (by rw[List.length_map];have:=List.length_eraseIdx_le d iN;omega)).rd'
    have hat:pX c d iN j=false:=(by unfold pX;rw[Ht1.out (by omega),Ht2.out (by omega)];rfl);have Hat:=Lh hat;clear hat y0 y1;go_wp2_with fail;go_roundw
    case rel=>exact⟨j+1,by omega,by go_num,λk hk=>by
     by_cases h:k<j
     . exact Hjn.out k h
     obtain rfl:k=j:=by omega
     exact Hat.out,Hlr.out,Hxr.out⟩
    case measure=>simp[intOf];omega
  have hjc':¬((j:Int)<(c.length:Int)):=by omega
  obtain rfl:c.length=j:=by omega
  have hcs:aB9 c d iN=false:=iJ Hjn.out;have hno:iK s c d=none:=by rw[Hcm2.out,if_neg (by rw[hcs];decide)]
  have Hno:=Lh hno;clear hno hcs;go_wp2_with fail;refine bodyPost_ret (v:=.tuple #[.slice none 0 0,.bool false]) (by simp[results,Try.results51,go_sem]) rfl ?_;rw[Hno.out];exact⟨Hlr.out,_,rfl,λc h=>by cases h⟩
def dE (s:Sp)(n k:Nat):Bool:=decide (s.lits[k]?.getD 0<0\/(n:Int)<=s.lits[k]?.getD 0)
def dB (s:Sp)(c:Cl):Bool:=(List.range s.lits.length).any (dE s c.length)
def li (s:Sp)(k:Nat):Nat:=(s.lits[k]?.getD 0).toNat
def ri (s:Sp)(k:Nat):Bool:=s.right[k]?.getD false
def cL (s:Sp)(c:Cl):Bool:=aY s 1 (if s.rule=3 then 2 else 1) (if s.rule=3 then 2 else 0) false&& !dB s c
def pZ (s:Sp)(c:Cl):Option Cl:=match c[li s 0]? with
 | some x=>if (x.neg&&dZ x.l x.r)=true then some (c.eraseIdx (li s 0))else none
 | none=>none
def jK (c:Cl)(i k:Nat):Bool:=match c[k]?,c[i]? with
 | some y,some x=>jT y x
 | _,_=>false
def mA (s:Sp)(c:Cl):Option Cl:=if (List.range (li s 0)).any (jK c (li s 0))=true then some (c.eraseIdx (li s 0))else none
noncomputable def lP (s:Sp)(c:Cl):Option Cl:=match c[li s 0]? with
 | some x=>(match cB x.l x.r with
  | some σ=>if x.neg=true then some (gU σ (c.eraseIdx (li s 0)))else none
  | none=>none)
 | none=>none
def aV (x:Lt)(r:Bool):Tm:=if r then x.r else x.l
noncomputable def lO (s:Sp)(c:Cl):Option Cl:=match c[li s 0]?,c[li s 1]? with
 | some x,some y=>
  if li s 0=li s 1\/x.neg=true\/y.neg=true\/bJ (aV x (ri s 0)).fn (aV x (ri s 0)).args.length=true\/bJ (aV y (ri s 1)).fn (aV y (ri s 1)).args.length=true\/
   bJ (aV x (!ri s 0)).fn (aV x (!ri s 0)).args.length≠bJ (aV y (!ri s 1)).fn (aV y (!ri s 1)).args.length then none
  else(match cB (aV x (ri s 0)) (aV y (ri s 1))with
   | some σ=>some (gU σ (c.eraseIdx (li s 0)++[⟨true,aV x (!ri s 0),aV y (!ri s 1)⟩]))
   | none=>none)
 | _,_=>none
noncomputable def bA (s:Sp)(c:Cl):Option Cl:=
 if cL s c=false then none
 else if s.rule=6 then pZ s c else if s.rule=7 then mA s c else if s.rule=2 then lP s c else lO s c
def aK3 (_:World)(_:Nat)(n:Int)(v:Value):Prop:=v=.int .i64 n
theorem sD (bx:Array Value)(p:Nat->Bool)(xs:List Int)(v:Value)(B:Nat)(w:World)(hr:Rd w B (bM xs) v)(hB:B<=w.heap.size)
 (hclo:∀k (hk:k<xs.length) w1 ev,Below w.heap.size w w1->aK3 w1 B xs[k] ev->Calls Try.prog 63 (#[ev]++bx) w1 (aP (p k) w1)):
 Calls Try.prog 45 #[v,.func (.func 63) #[] bx] w (pK p xs.length w):=by
 obtain⟨A,c,rfl,hc,hn,hm⟩:=Rd.row_form hr;have H3:=Lh hr;have Hclo:=Lh hclo;clear hr hclo;go_enter Try.func45,Try.ntmps45;go_wp2_with fail;go_loopw [8] (λi wr=>∃k:Nat,k<=xs.length/\i=.int .i64 k/\(∀j,j<k->p j=false)/\Below w.heap.size w wr) (λi _=>xs.length-(intOf i).toNat)
 case atStart=>exact⟨0,Nat.zero_le _,rfl,λj hj=>by omega,Below.refl _ _⟩
 obtain⟨k,hk,rfl,hall,hbel⟩:=hrel;have Hall:=Lh hall;have Hbel:=Lh hbel;have hzr:=hbel.size;clear hall hbel;by_cases hlt:k<xs.length
 ·
  obtain⟨ab,off,rfl,hb,k0⟩:=Rd.leaf_at (f:=λn:Int=>Value.int .i64 n) (H3.out.low Hbel.out hB) hlt;have hcl:=Hclo.out k hlt wr (.int .i64 xs[k]) Hbel.out rfl;have Hcl:=Lh hcl;clear hcl;cases hp:p k with
  | true=>
   rw[hp]at Hcl;go_wp2_with (
    go_at_call 63
    refine Hcl.out.mono ?_;rintro e w1 ⟨rfl,hb1⟩)
   go_ret;exact⟨k,rfl,Hbel.out.trans (hb1.mono hzr),.inr ⟨k,hlt,rfl,eB hlt hp⟩⟩
  | false=>
   rw[hp]at Hcl;have Hp:=Lh hp;clear hp;go_wp2_with (
    go_at_call 63
    refine Hcl.out.mono ?_;rintro e w1 ⟨rfl,hb1⟩)
   go_roundw
   case rel=>
    refine⟨k+1,by omega,by go_num,λj hj=>?_,Hbel.out.trans (hb1.mono hzr)⟩;by_cases hjk:j=k
    . subst hjk;exact Hp.out
    exact Hall.out j (by omega)
   case measure=>simp[intOf];omega
 . go_wp2_with fail;go_ret;exact⟨-1,rfl,Hbel.out,.inl ⟨rfl,iJ λj hj=>Hall.out j (by omega)⟩⟩
theorem gZ (bx:Array Value)(p:Nat->Bool)(xs:List Int)(v:Value)(B:Nat)(w:World)(hr:Rd w B (bM xs) v)(hB:B<=w.heap.size)
 (hclo:∀k (hk:k<xs.length) w1 ev,Below w.heap.size w w1->aK3 w1 B xs[k] ev->Calls Try.prog 63 (#[ev]++bx) w1 (aP (p k) w1)):
 Calls Try.prog 34 #[v,.func (.func 63) #[] bx] w (aP ((List.range xs.length).any p) w):=by
 have Hclo:=Lh hclo;have H3:=Lh hr;clear hclo hr;go_enter Try.func34,Try.ntmps34;go_wp2_with (
  go_at_call 45
  refine(sD bx p xs v B w H3.out hB Hclo.out).mono ?_;rintro e w1 ⟨i,rfl,hb1,hc1⟩)
 rcases hc1 with⟨rfl,h⟩ | ⟨k,hk,rfl,h⟩
 . go_ret;exact⟨by rw[h];rfl,hb1⟩
 go_ret;refine⟨?_,hb1⟩;rw[h];show Ending.returned (.bool (decide ((0:Int)<=(k:Int))))=_
 rw[decide_eq_true (by omega)]
theorem xO (s:Sp)(c:Cl)(v1 v2 v3 v4 v5 vc:Value)(B:Nat)(w:World)(hru:s.rule=6)(hs:RdS w B s v1 v2 v3 v4 v5)(hc:Rd w B (aT c) vc)(hB:B<=w.heap.size)(hcn:c.length<=1000):
 Calls Try.prog 49 #[.agg #[.int .i64 s.rule,v1,v2,v3,v4,v5],vc] w (oN (bA s c) w):=by
 have hq6:(s.rule==6)=true:=by rw[hru];rfl
 have hsm:bA s c=if cL s c=false then none else pZ s c:=by
  unfold bA;rw[if_pos hru]
 have Hsm:=Lh hsm;clear hsm;obtain⟨Ac,cc,rfl,-,-,-⟩:=Rd.cl_form hc;have HStp:=Lh hs;have Hc:=Lh hc;have hq3:(s.rule==3)=false:=by rw[hru];rfl
 have hok:cL s c=(aY s 1 1 0 false&& !dB s c):=by unfold cL;rw[hru];rfl
 obtain⟨bn,hbn⟩:∃b,aY s 1 1 0 false=b:=⟨_,rfl⟩;obtain⟨bb,hbb⟩:∃b,dB s c=b:=⟨_,rfl⟩;rw[hbn,hbb]at hok;have hnone:(bn&& !bb)=false->bA s c=none:=λh=>by unfold bA;rw[if_pos (hok.trans h)]
 have Hbn:=Lh hbn;have Hbb:=Lh hbb;have Hok:=Lh hok;have Hrul:=Lh hru;have Hnone:=Lh hnone;obtain⟨-,-,A2,c2,-,-,-,-,-,-,-,rfl,-⟩:=hs.forms;have hlb:∀(w':World) (b:Nat),Below w.heap.size w w'->aU b 38 (.slice Ac c.length cc) w'->Calls Try.prog 34 #[.slice A2 s.lits.length c2,.func (.func 63) #[] #[.pointer (some ⟨b,0,none⟩)]] w' (aP bb w'):=by
  intro w' b hb hbx;rw[<-hbb];refine gZ _ (dE s c.length) s.lits _ B w' (hs.lits.low hb hB) (by have:=hb.size;omega) λk hk w1 ev hb1 hv=>?_
  rw[show ev=.int .i64 s.lits[k]from hv];have:=iA s.lits[k] b Ac c.length cc w1 ((hb1.cell (p:=⟨b,0,none⟩) hbx.lt).trans hbx.cell);unfold dE;rw[List.getElem?_eq_getElem hk];exact this
 have Hlb:=Lh hlb;clear hs hc hok hbn hbb hnone hlb hru;cases bn with
 | false=>
  have Hno:=Lh (Hnone.out rfl);go_enter Try.func49,Try.ntmps49;go_upto_region 1 with fail
  obtain⟨hx1,hx2,hB2,hz2⟩:=aO w (.cells #[.int .i64 s.rule,v1,(.slice A2 s.lits.length c2),v3,v4,v5] 45) (.cells #[.slice Ac c.length cc] 38);have hx1:dH w.heap.size 45 (.int .i64 s.rule) v1 ((.slice A2 s.lits.length c2)) v3 v4 v5 _:=hx1;have hx2:aU (w.heap.size+1) 38 (.slice Ac c.length cc) _:=hx2;generalize (w.alloc (.cells #[.int .i64 s.rule,v1,(.slice A2 s.lits.length c2),v3,v4,v5] 45)).alloc (.cells #[.slice Ac c.length cc] 38)=w2 at hx1 hx2 hB2 hz2 ⊢;obtain⟨y0,y1,y2,y3,y4,y5⟩:=hx1.cells;have x0:=hx2.cell;have HX1:=Lh hx1;have HX2:=Lh hx2;have HB2:=Lh hB2;have hnm:=aN s 1 1 0 false v1 _ v3 v4 v5 B w2 (HStp.out.low hB2 hB);have Hnm:=Lh hnm;clear hx1 hx2 hB2 hnm;go_wp2_with (
   go_at_call 46
   refine Hnm.out.mono ?_;rintro e w3 ⟨rfl,hb3⟩;rw[Hbn.out])
  refine bodyPost_ret (v:=.tuple #[.slice none 0 0,.bool false]) (by simp[results,Try.results49,go_sem]) rfl ?_;rw[Hno.out];refine⟨?_,_,rfl,λc h=>by cases h⟩;exact HB2.out.trans (hb3.mono (by omega))
 | true=>
  cases bb with
  | true=>
   have Hno:=Lh (Hnone.out rfl);go_enter Try.func49,Try.ntmps49;go_upto_region 1 with fail
   obtain⟨hx1,hx2,hB2,hz2⟩:=aO w (.cells #[.int .i64 s.rule,v1,(.slice A2 s.lits.length c2),v3,v4,v5] 45) (.cells #[.slice Ac c.length cc] 38);have hx1:dH w.heap.size 45 (.int .i64 s.rule) v1 ((.slice A2 s.lits.length c2)) v3 v4 v5 _:=hx1;have hx2:aU (w.heap.size+1) 38 (.slice Ac c.length cc) _:=hx2;generalize (w.alloc (.cells #[.int .i64 s.rule,v1,(.slice A2 s.lits.length c2),v3,v4,v5] 45)).alloc (.cells #[.slice Ac c.length cc] 38)=w2 at hx1 hx2 hB2 hz2 ⊢;obtain⟨y0,y1,y2,y3,y4,y5⟩:=hx1.cells;have x0:=hx2.cell;have HX1:=Lh hx1;have HX2:=Lh hx2;have HB2:=Lh hB2;have hnm:=aN s 1 1 0 false v1 _ v3 v4 v5 B w2 (HStp.out.low hB2 hB);have Hnm:=Lh hnm;clear hx1 hx2 hB2 hnm;go_wp2_with (
    first
    | (
     go_at_call 46
     refine Hnm.out.mono ?_;rintro e w3 ⟨rfl,hb3⟩;rw[Hbn.out];have z2:=(hb3.cell (p:=⟨w.heap.size,2,none⟩) (show w.heap.size<w2.heap.size by omega)).trans y2;have Hb3:=Lh hb3;clear hb3)
    | (
     go_at_call 34
     refine(Hlb.out _ (w.heap.size+1) (HB2.out.trans (Hb3.out.mono (by omega))) (HX2.out.low Hb3.out)).mono ?_;rintro e w4 ⟨rfl,hb4⟩))
   refine bodyPost_ret (v:=.tuple #[.slice none 0 0,.bool false]) (by simp[results,Try.results49,go_sem]) rfl ?_;rw[Hno.out];refine⟨?_,_,rfl,λc h=>by cases h⟩;exact(HB2.out.trans (Hb3.out.mono (by omega))).trans (hb4.mono (by have:=Hb3.out.size;omega))
  | false=>
   have Hyes:=Lh (show cL s c=true from Hok.out);have hlen:s.lits.length=1:=by have:=Hbn.out;unfold aY at this;simp at this;exact this.1.1.2
   have hbad:dB s c=false:=Hbb.out;have hin:∀k,k<1->li s k<c.length/\s.lits[k]? =some (li s k:Int):=λk hk=>by
    unfold dB at hbad;have h1:dE s c.length k=false:=by
     cases h:dE s c.length k with
     | false=>rfl
     | true=>rw[eB (by rw[hlen];exact hk) h]at hbad;cases hbad
    unfold dE at h1;simp only[decide_eq_false_iff_not,not_or]at h1;have h3:k<s.lits.length:=(by rw[hlen];exact hk);unfold li;rw[List.getElem?_eq_getElem h3]at h1 ⊢;simp only[Option.getD_some]at h1 ⊢;exact⟨by omega,by rw[Int.toNat_of_nonneg (by omega)]⟩
   obtain⟨hi0,hi1⟩:=hin 0 (by omega);have hli:=HStp.out.lits;unfold bM at hli;obtain⟨a2,o2,rfl,ha2,ho2⟩:=Rd.leaf_at (f:=λn=>.int .i64 n) hli (k:=0) (by omega);obtain⟨i,hi⟩:∃i,li s 0=i:=⟨_,rfl⟩;rw[hi]at hi0 hi1;have e0:s.lits[0]'(by omega)=(i:Int):=by
    rw[List.getElem?_eq_getElem (by omega)]at hi1;exact Option.some.inj hi1
   simp only[e0,Nat.add_zero]at ho2;have Hi:=Lh hi;have Oi:=Lh ho2;have Hin:=Lh hin;rw[hlen]at HStp Hlb ⊢;clear hli ho2 hi hi1 e0 hin hbad hlen;go_enter Try.func49,Try.ntmps49;go_upto_region 1 with fail
   obtain⟨hx1,hx2,hB2,hz2⟩:=aO w (.cells #[.int .i64 s.rule,v1,(.slice (some ⟨a2,o2,none⟩) 1 c2),v3,v4,v5] 45) (.cells #[.slice Ac c.length cc] 38);have hx1:dH w.heap.size 45 (.int .i64 s.rule) v1 ((.slice (some ⟨a2,o2,none⟩) 1 c2)) v3 v4 v5 _:=hx1;have hx2:aU (w.heap.size+1) 38 (.slice Ac c.length cc) _:=hx2;generalize (w.alloc (.cells #[.int .i64 s.rule,v1,(.slice (some ⟨a2,o2,none⟩) 1 c2),v3,v4,v5] 45)).alloc (.cells #[.slice Ac c.length cc] 38)=w2 at hx1 hx2 hB2 hz2 ⊢;obtain⟨y0,y1,y2,y3,y4,y5⟩:=hx1.cells;have x0:=hx2.cell;have HX1:=Lh hx1;have HX2:=Lh hx2;have HB2:=Lh hB2;have hnm:=aN s 1 1 0 false v1 _ v3 v4 v5 B w2 (HStp.out.low hB2 hB);have Hnm:=Lh hnm;clear hx1 hx2 hB2 hnm;go_upto_region 6 with(
    first
    | (
     go_at_call 46
     refine Hnm.out.mono ?_;rintro e w3 ⟨rfl,hb3⟩;rw[Hbn.out];have z2:=(hb3.cell (p:=⟨w.heap.size,2,none⟩) (show w.heap.size<w2.heap.size by omega)).trans y2;have Hb3:=Lh hb3;clear hb3)
    | (
     go_at_call 34
     refine(Hlb.out _ (w.heap.size+1) (HB2.out.trans (Hb3.out.mono (by omega))) (HX2.out.low Hb3.out)).mono ?_;rintro e w4 ⟨rfl,hb4⟩;have Hb4:=Lh hb4;clear hb4))
   have z2:=(Hb4.out.cell (p:=⟨w.heap.size,2,none⟩) (show w.heap.size<w3.heap.size by have:=Hb3.out.size;omega)).trans z2;have hlow4:Below w.heap.size w w4:=(HB2.out.trans (Hb3.out.mono (by omega))).trans (Hb4.out.mono (by have:=Hb3.out.size;omega));have oi:=(hlow4.cell (p:=⟨a2,o2,none⟩) (show a2<w.heap.size by omega)).trans Oi.out;have hz3:=Hb3.out.size;have hz4:=Hb4.out.size;go_upto_region 7 with fail
   have hbx5:=aD w4 (.cells #[.int .i64 (i:Nat)] 3);have hxi5:aU w4.heap.size 3 (.int .i64 (i:Nat)) (w4.alloc (.cells #[.int .i64 (i:Nat)] 3)):=heap_alloc_new w4 _;generalize w4.alloc (.cells #[.int .i64 (i:Nat)] 3)=w5 at hbx5 hxi5 ⊢;have hx5:=((HX2.out.low Hb3.out).low Hb4.out).low hbx5;have hs5:=((HX1.out.low Hb3.out).low Hb4.out).low hbx5;have hlow5:Below w.heap.size w w5:=hlow4.trans (hbx5.mono (by omega));have hz5:=hbx5.size;have hzi5:=hxi5.lt;obtain⟨ab,off,n0,f1,ys1,A1,c1,f2,ys2,A3,c3,rfl,hxk,hab,k0,k1,k2,k3,k4,hr1,hr2⟩:=(Hc.out.low hlow5 hB).lt_at hi0;have hii:¬((c.length:Int)<=(i:Int)):=by omega
   obtain⟨zy0,-,zy2,zy3,-,-⟩:=hs5.cells;have Hx5:=Lh hx5;have Hs5:=Lh hs5;have Hxi5:=Lh hxi5;have Hlow5:=Lh hlow5;have Hxk:=Lh hxk;have HR1:=Lh hr1;have HR2:=Lh hr2;have habl:ab<w5.heap.size:=by omega
   have hxil:w4.heap.size<w5.heap.size:=hzi5;have hci:c[i]? =some ⟨n0,.mk f1 ys1,.mk f2 ys2⟩:=by rw[List.getElem?_eq_getElem hi0,hxk]
   have Hci:=Lh hci;clear hx5 hs5 hxi5 hlow5 hxk hr1 hr2 hbx5 hlow4 z2 oi y0 y1 y2 y3 y4 y5 x0 hci hzi5 Hlb Hnm;go_upto_region 9 with fail
   have hcx:∀w',Below w5.heap.size w5 w'->w'.cell? ⟨w.heap.size+1,0,none⟩=some (.slice (some ⟨ab,off,none⟩) c.length cc)/\w'.cell? ⟨w4.heap.size,0,none⟩=some (.int .i64 (i:Nat))/\
    w'.cell? ⟨ab,off+i*5,none⟩=some (.bool n0)/\w'.cell? ⟨ab,off+i*5+1,none⟩=some (.int .i64 f1)/\w'.cell? ⟨ab,off+i*5+2,none⟩=some (.slice A1 ys1.length c1)/\w'.cell? ⟨ab,off+i*5+3,none⟩=some (.int .i64 f2)/\w'.cell? ⟨ab,off+i*5+4,none⟩=some (.slice A3 ys2.length c3):=λw' hb=>
    ⟨(Hx5.out.low hb).cell,(Hxi5.out.low hb).cell,(hb.cell (p:=⟨ab,off+i*5,none⟩) habl).trans k0,(hb.cell (p:=⟨ab,off+i*5+1,none⟩) habl).trans k1,(hb.cell (p:=⟨ab,off+i*5+2,none⟩) habl).trans k2,(hb.cell (p:=⟨ab,off+i*5+3,none⟩) habl).trans k3,(hb.cell (p:=⟨ab,off+i*5+4,none⟩) habl).trans k4⟩
   have Hcx:=Lh hcx;clear hcx k0 k1 k2 k3 k4;have hres:bA s c=if (n0&&dZ (.mk f1 ys1) (.mk f2 ys2))=true then some (c.eraseIdx i)else none:=by
    rw[Hsm.out,if_neg (by rw[Hyes.out];decide)];unfold pZ;rw[Hi.out,Hci.out]
   have Hres:=Lh hres;clear hres;cases n0 with
   | false=>
    have hz50:=Hlow5.out.size;refine rg 23 (λ_ w'=>Below w5.heap.size w5 w') ?_;intro wd hwd hbd;refine⟨?_,λhS=>?_⟩
    . exact hwd ▸ hbd
    refine tk 0 (.slice (some ⟨ab,off,none⟩) c.length cc) hS ?_ λhS=>?_
    . intro w' L hn hw;obtain⟨q0,q1,q2,q3,q4,q5,q6⟩:=Hcx.out w' hw;simp[execOp,go_sem,q0]
    refine tk 1 (.int .i64 (i:Nat)) hS ?_ λhS=>?_
    . intro w' L hn hw;obtain⟨q0,q1,q2,q3,q4,q5,q6⟩:=Hcx.out w' hw;simp[execOp,go_sem,q1]
    refine tk 3 (.slice (some ⟨ab,off,none⟩) c.length cc) hS ?_ λhS=>?_
    . intro w' L hn hw;obtain⟨q0,q1,q2,q3,q4,q5,q6⟩:=Hcx.out w' hw;simp[execOp,go_sem,q0]
    refine tk 4 (.int .i64 (i:Nat)) hS ?_ λhS=>?_
    . intro w' L hn hw;obtain⟨q0,q1,q2,q3,q4,q5,q6⟩:=Hcx.out w' hw;simp[execOp,go_sem,q1]
    refine tk 5 (.pointer (some ⟨ab,off+i*5,none⟩)) hS ?_ λhS=>?_
    . intros;simp[execOp,go_sem,hi0,hii]
    refine ta 6 (.pointer (some ⟨ab,off+i*5,none⟩)) hS λhS=>?_
    refine tk 7 (.bool false) hS ?_ λhS=>?_
    . intro w' L hn hw;obtain⟨q0,q1,q2,q3,q4,q5,q6⟩:=Hcx.out w' hw;simp[execOp,go_sem,q2]
    refine so 2 ?_;have hbd5:Below w5.heap.size w5 wd:=hwd ▸ hbd;have hzd:wd.heap.size=w5.heap.size:=(by rw[hwd]);have hlowd:Below w.heap.size w wd:=Hlow5.out.trans (hbd5.mono hz50);have hc2:=cT c i _ (λb=>b<B) wd ((Hc.out.low hlowd hB).rdP (by omega)) hi0 (by omega);refine aG ?_ hc2 ?_
    . simp[execOp,resolve,invoke,go_sem]
    rintro e w6 ⟨v42,rfl,hown6,hb6⟩;refine⟨_,rfl,?_⟩;refine gS ?_ λhS=>?_
    . exact hS.trans (hb6.mono hS.size)
    refine ta 8 (.bool false) hS λhS=>?_
    refine sk 9 hS λhS=>?_
    refine sk 10 hS λhS=>?_
    refine sk 11 hS λhS=>?_
    refine sk 12 hS λhS=>?_
    refine sk 13 hS λhS=>?_
    refine sk 14 hS λhS=>?_
    refine sk 15 hS λhS=>?_
    refine sk 16 hS λhS=>?_
    refine sk 17 hS λhS=>?_
    refine sk 18 hS λhS=>?_
    refine sk 19 hS λhS=>?_
    refine ta 20 (.bool false) hS λhS=>?_
    refine ta 21 (v42) hS λhS=>?_
    refine ta 22 (.bool false) hS λhS=>?_
    refine dn ?_;have hfin:Below w.heap.size w w6:=Hlow5.out.trans (hS.mono hz50);have Hfin:=Lh hfin;clear hS hwd hbd hown6 hfin hb6 hzd hc2 hbd5 hlowd;go_wp2_with fail;refine bodyPost_ret (v:=.tuple #[v42,.bool false]) (by simp[results,Try.results49,go_sem]) rfl ?_;rw[Hres.out];exact⟨Hfin.out,v42,rfl,λc h=>by cases h⟩
   | true=>
    obtain⟨sb,hsb⟩:∃b,dZ (.mk f1 ys1) (.mk f2 ys2)=b:=⟨_,rfl⟩;have Hsb:=Lh hsb;clear hsb;have hz50:=Hlow5.out.size;refine rg 23 (λ_ w'=>Below w5.heap.size w5 w') ?_;intro wd hwd hbd;refine⟨?_,λhS=>?_⟩
    . exact hwd ▸ hbd
    refine tk 0 (.slice (some ⟨ab,off,none⟩) c.length cc) hS ?_ λhS=>?_
    . intro w' L hn hw;obtain⟨q0,q1,q2,q3,q4,q5,q6⟩:=Hcx.out w' hw;simp[execOp,go_sem,q0]
    refine tk 1 (.int .i64 (i:Nat)) hS ?_ λhS=>?_
    . intro w' L hn hw;obtain⟨q0,q1,q2,q3,q4,q5,q6⟩:=Hcx.out w' hw;simp[execOp,go_sem,q1]
    refine tk 3 (.slice (some ⟨ab,off,none⟩) c.length cc) hS ?_ λhS=>?_
    . intro w' L hn hw;obtain⟨q0,q1,q2,q3,q4,q5,q6⟩:=Hcx.out w' hw;simp[execOp,go_sem,q0]
    refine tk 4 (.int .i64 (i:Nat)) hS ?_ λhS=>?_
    . intro w' L hn hw;obtain⟨q0,q1,q2,q3,q4,q5,q6⟩:=Hcx.out w' hw;simp[execOp,go_sem,q1]
    refine tk 5 (.pointer (some ⟨ab,off+i*5,none⟩)) hS ?_ λhS=>?_
    . intros;simp[execOp,go_sem,hi0,hii]
    refine ta 6 (.pointer (some ⟨ab,off+i*5,none⟩)) hS λhS=>?_
    refine tk 7 (.bool true) hS ?_ λhS=>?_
    . intro w' L hn hw;obtain⟨q0,q1,q2,q3,q4,q5,q6⟩:=Hcx.out w' hw;simp[execOp,go_sem,q2]
    refine so 2 ?_;have hbd5:Below w5.heap.size w5 wd:=hwd ▸ hbd;have hzd:wd.heap.size=w5.heap.size:=(by rw[hwd]);have hlowd:Below w.heap.size w wd:=Hlow5.out.trans (hbd5.mono hz50);have hc2:=cT c i _ (λb=>b<B) wd ((Hc.out.low hlowd hB).rdP (by omega)) hi0 (by omega);refine aG ?_ hc2 ?_
    . simp[execOp,resolve,invoke,go_sem]
    rintro e w6 ⟨v42,rfl,hown6,hb6⟩;refine⟨_,rfl,?_⟩;refine gS ?_ λhS=>?_
    . exact hS.trans (hb6.mono hS.size)
    refine ta 8 (.bool true) hS λhS=>?_
    refine tk 9 (.slice (some ⟨ab,off,none⟩) c.length cc) hS ?_ λhS=>?_
    . intro w' L hn hw;obtain⟨q0,q1,q2,q3,q4,q5,q6⟩:=Hcx.out w' hw;simp[execOp,go_sem,q0]
    refine tk 10 (.int .i64 (i:Nat)) hS ?_ λhS=>?_
    . intro w' L hn hw;obtain⟨q0,q1,q2,q3,q4,q5,q6⟩:=Hcx.out w' hw;simp[execOp,go_sem,q1]
    refine tk 11 (.pointer (some ⟨ab,off+i*5,none⟩)) hS ?_ λhS=>?_
    . intros;simp[execOp,go_sem,hi0,hii]
    refine ta 12 (.pointer (some ⟨ab,off+i*5+1,none⟩)) hS λhS=>?_
    refine tk 13 (.agg #[.int .i64 f1,.slice A1 ys1.length c1]) hS ?_ λhS=>?_
    . intro w' L hn hw;obtain⟨q0,q1,q2,q3,q4,q5,q6⟩:=Hcx.out w' hw;simp[execOp,go_sem,q3,q4]
    refine tk 14 (.slice (some ⟨ab,off,none⟩) c.length cc) hS ?_ λhS=>?_
    . intro w' L hn hw;obtain⟨q0,q1,q2,q3,q4,q5,q6⟩:=Hcx.out w' hw;simp[execOp,go_sem,q0]
    refine tk 15 (.int .i64 (i:Nat)) hS ?_ λhS=>?_
    . intro w' L hn hw;obtain⟨q0,q1,q2,q3,q4,q5,q6⟩:=Hcx.out w' hw;simp[execOp,go_sem,q1]
    refine tk 16 (.pointer (some ⟨ab,off+i*5,none⟩)) hS ?_ λhS=>?_
    . intros;simp[execOp,go_sem,hi0,hii]
    refine ta 17 (.pointer (some ⟨ab,off+i*5+3,none⟩)) hS λhS=>?_
    refine tk 18 (.agg #[.int .i64 f2,.slice A3 ys2.length c3]) hS ?_ λhS=>?_
    . intro w' L hn hw;obtain⟨q0,q1,q2,q3,q4,q5,q6⟩:=Hcx.out w' hw;simp[execOp,go_sem,q5,q6]
    refine so 19 ?_;have hz6:=hb6.size;have hlow6:Below w.heap.size w w6:=hlowd.trans (hb6.mono (by omega));have hc19:=eM (aI ys1+1) f1 f2 ys1 ys2 _ _ B w6 (by omega) ((HR1.out.low hbd5 (by omega)).low hb6 (by omega)) ((HR2.out.low hbd5 (by omega)).low hb6 (by omega)) (by omega);rw[Hsb.out]at hc19;refine aG ?_ hc19 ?_
    . simp[execOp,resolve,invoke,go_sem]
    rintro e w7 ⟨rfl,hb7⟩;refine⟨_,rfl,?_⟩;refine gS ?_ λhS=>?_
    . exact hS.trans (hb7.mono hS.size)
    refine ta 20 (.bool sb) hS λhS=>?_
    refine ta 21 (v42) hS λhS=>?_
    refine ta 22 (.bool sb) hS λhS=>?_
    refine dn ?_;have hfin:Below w.heap.size w w7:=Hlow5.out.trans (hS.mono hz50);have hrd7:=hown6.low hb7;have Hfin:=Lh hfin;have Hrd7:=Lh hrd7;clear hS hwd hbd hown6 hfin hb6 hb7 hrd7 hzd hc2 hbd5 hlowd;go_wp2_with fail;refine bodyPost_ret (v:=.tuple #[v42,.bool sb]) (by simp[results,Try.results49,go_sem]) rfl ?_;rw[Hres.out,Hsb.out];cases sb with
    | false=>exact⟨Hfin.out,v42,rfl,λc h=>by cases h⟩
    | true=>
     refine⟨Hfin.out,v42,rfl,λc' h=>?_⟩;obtain rfl:=Option.some.inj h;exact(Hrd7.out.rd (by rw[List.length_map];have:=List.length_eraseIdx_le c i;omega)).rd'
theorem Rd.takeRow {w:World} {B size i n cc ab off:Nat} {rows:List (List Tr)} (h:Rd w B (.sl size rows) (.slice (some ⟨ab,off,none⟩) n cc))(hi:i<=rows.length):Rd w B (.sl size (rows.take i)) (.slice (some ⟨ab,off,none⟩) i cc):=by
 rcases h.sl_inv with⟨rfl,A,hv⟩ | ⟨b,off',c',us,hv,hc,hn,hm,hb,hcell,hr⟩
 . injection hv with _ h1 h2
   have:i=0:=by simpa using hi
   subst this h2;exact .empty _ _
 injection hv with hA _ hcc
 injection hA with hA
 injection hA with hA1 hA2
 subst hA1 hA2 hcc;have hl:(rows.take i).length=i:=by rw[List.length_take];omega
 have hsz:∀r∈rows,r.length=size:=by
  cases h with
  | row _ _ _ _ _ us' hl' _ _ _ _ _ _=>exact hl'
  | empty=>intro r hr;cases hr
 have:=Rd.row (w:=w) (B:=B) size ab off cc (rows.take i) us (λr hr'=>hsz r (List.mem_of_mem_take hr')) (by omega) (by omega) hm hb (λk j hk hj=>hcell k j (by omega) hj) (λk hk j hj=>by
  rw[List.getElem_take]at hj;simp only[List.getElem_take];exact hr k (by omega) j hj)
 rw[hl]at this;exact this
theorem Rd.takeCl {w:World} {B i n cc ab off:Nat} {c:Cl} (h:Rd w B (aT c) (.slice (some ⟨ab,off,none⟩) n cc))(hi:i<=c.length):Rd w B (aT (c.take i)) (.slice (some ⟨ab,off,none⟩) i cc):=by
 unfold aT at h ⊢;rw[List.map_take];exact h.takeRow (by simpa using hi)
theorem rP (bx:Array Value)(p:Nat->Bool)(xs:List Lt)(v:Value)(B:Nat)(w:World)(hr:Rd w B (aT xs) v)(hB:B<=w.heap.size)
 (hclo:∀k (hk:k<xs.length) w1 ev,Below w.heap.size w w1->LtV w1 B xs[k] ev->Calls Try.prog 66 (#[ev]++bx) w1 (aP (p k) w1)):
 Calls Try.prog 58 #[v,.func (.func 66) #[] bx] w (pK p xs.length w):=by
 obtain⟨A,c,rfl,hc,hn,hm⟩:=Rd.row_form hr;have H3:=Lh hr;have Hclo:=Lh hclo;clear hr hclo;go_enter Try.func58,Try.ntmps58;go_wp2_with fail;go_loopw [8] (λi wr=>∃k:Nat,k<=xs.length/\i=.int .i64 k/\(∀j,j<k->p j=false)/\Below w.heap.size w wr) (λi _=>xs.length-(intOf i).toNat)
 case atStart=>exact⟨0,Nat.zero_le _,rfl,λj hj=>by omega,Below.refl _ _⟩
 obtain⟨k,hk,rfl,hall,hbel⟩:=hrel;have Hall:=Lh hall;have Hbel:=Lh hbel;have hzr:=hbel.size;clear hall hbel;by_cases hlt:k<xs.length
 ·
  obtain⟨ab,off,b,f1,ys1,A1,c1,f2,ys2,A2,c2,rfl,hxk,hb,k0,k1,k2,k3,k4,hr1,hr2⟩:=(H3.out.low Hbel.out hB).lt_at hlt;have hcl:=Hclo.out k hlt wr (.agg #[.bool b,.int .i64 f1,.slice A1 ys1.length c1,.int .i64 f2,.slice A2 ys2.length c2]) Hbel.out (by rw[hxk];exact⟨A1,c1,A2,c2,rfl,hr1,hr2⟩);have Hcl:=Lh hcl;clear hxk hr1 hr2 hcl;cases hp:p k with
  | true=>
   rw[hp]at Hcl;go_wp2_with (
    go_at_call 66
    refine Hcl.out.mono ?_;rintro e w1 ⟨rfl,hb1⟩)
   go_ret;exact⟨k,rfl,Hbel.out.trans (hb1.mono hzr),.inr ⟨k,hlt,rfl,eB hlt hp⟩⟩
  | false=>
   rw[hp]at Hcl;have Hp:=Lh hp;clear hp;go_wp2_with (
    go_at_call 66
    refine Hcl.out.mono ?_;rintro e w1 ⟨rfl,hb1⟩)
   go_roundw
   case rel=>
    refine⟨k+1,by omega,by go_num,λj hj=>?_,Hbel.out.trans (hb1.mono hzr)⟩;by_cases hjk:j=k
    . subst hjk;exact Hp.out
    exact Hall.out j (by omega)
   case measure=>simp[intOf];omega
 . go_wp2_with fail;go_ret;exact⟨-1,rfl,Hbel.out,.inl ⟨rfl,iJ λj hj=>Hall.out j (by omega)⟩⟩
theorem vM (bx:Array Value)(p:Nat->Bool)(xs:List Lt)(v:Value)(B:Nat)(w:World)(hr:Rd w B (aT xs) v)(hB:B<=w.heap.size)
 (hclo:∀k (hk:k<xs.length) w1 ev,Below w.heap.size w w1->LtV w1 B xs[k] ev->Calls Try.prog 66 (#[ev]++bx) w1 (aP (p k) w1)):
 Calls Try.prog 42 #[v,.func (.func 66) #[] bx] w (aP ((List.range xs.length).any p) w):=by
 have Hclo:=Lh hclo;have H3:=Lh hr;clear hclo hr;go_enter Try.func42,Try.ntmps42;go_wp2_with (
  go_at_call 58
  refine(rP bx p xs v B w H3.out hB Hclo.out).mono ?_;rintro e w1 ⟨i,rfl,hb1,hc1⟩)
 rcases hc1 with⟨rfl,h⟩ | ⟨k,hk,rfl,h⟩
 . go_ret;exact⟨by rw[h];rfl,hb1⟩
 go_ret;refine⟨?_,hb1⟩;rw[h];show Ending.returned (.bool (decide ((0:Int)<=(k:Int))))=_
 rw[decide_eq_true (by omega)]
theorem aJ5 (c:Cl)(i:Nat)(ab off cc b1 b2:Nat)(B:Nat)(w:World)(hr:Rd w B (aT c) (.slice (some ⟨ab,off,none⟩) c.length cc))(hi:i<c.length)(h1:aU b1 38 (.slice (some ⟨ab,off,none⟩) c.length cc) w)(h2:aU b2 3 (.int .i64 (i:Nat)) w)(hB:B<=w.heap.size):
 Calls Try.prog 42 #[.slice (some ⟨ab,off,none⟩) i cc,.func (.func 66) #[] #[.pointer (some ⟨b1,0,none⟩),.pointer (some ⟨b2,0,none⟩)]] w (aP ((List.range i).any (jK c i)) w):=by
 have hl:(c.take i).length=i:=by rw[List.length_take];omega
 have:=vM #[.pointer (some ⟨b1,0,none⟩),.pointer (some ⟨b2,0,none⟩)] (jK c i) (c.take i) _ B w (hr.takeCl (Nat.le_of_lt hi)) hB (λk hk w1 ev hb hv=>by
  have hkc:k<c.length:=by omega
  rw[List.getElem_take]at hv;have h0:=xM c[k] c i ev b1 b2 (some ⟨ab,off,none⟩) cc B w1 hv (hr.low hb hB) hi (h1.low hb).cell (h2.low hb).cell (by have:=hb.size;have:=h1.lt;omega) (by have:=hb.size;have:=h2.lt;omega) (by have:=hb.size;omega);have e:jK c i k=jT c[k] c[i]:=by unfold jK;rw[List.getElem?_eq_getElem hkc,List.getElem?_eq_getElem hi]
  rw[e];exact h0)
 rw[hl]at this;exact this
theorem xP (s:Sp)(c:Cl)(v1 v2 v3 v4 v5 vc:Value)(B:Nat)(w:World)(hru:s.rule=7)(hs:RdS w B s v1 v2 v3 v4 v5)(hc:Rd w B (aT c) vc)(hB:B<=w.heap.size)(hcn:c.length<=1000):
 Calls Try.prog 49 #[.agg #[.int .i64 s.rule,v1,v2,v3,v4,v5],vc] w (oN (bA s c) w):=by
 have hq6:(s.rule==6)=false:=by rw[hru];rfl
 have hq7:(s.rule==7)=true:=by rw[hru];rfl
 have hsm:bA s c=if cL s c=false then none else mA s c:=by
  unfold bA;rw[if_neg (by rw[hru];decide:¬s.rule=6),if_pos hru]
 have Hsm:=Lh hsm;have hccap:c.length<=1000:=hcn;clear hsm;obtain⟨Ac,cc,rfl,-,-,-⟩:=Rd.cl_form hc;have HStp:=Lh hs;have Hc:=Lh hc;have hq3:(s.rule==3)=false:=by rw[hru];rfl
 have hok:cL s c=(aY s 1 1 0 false&& !dB s c):=by unfold cL;rw[hru];rfl
 obtain⟨bn,hbn⟩:∃b,aY s 1 1 0 false=b:=⟨_,rfl⟩;obtain⟨bb,hbb⟩:∃b,dB s c=b:=⟨_,rfl⟩;rw[hbn,hbb]at hok;have hnone:(bn&& !bb)=false->bA s c=none:=λh=>by unfold bA;rw[if_pos (hok.trans h)]
 have Hbn:=Lh hbn;have Hbb:=Lh hbb;have Hok:=Lh hok;have Hrul:=Lh hru;have Hnone:=Lh hnone;obtain⟨-,-,A2,c2,-,-,-,-,-,-,-,rfl,-⟩:=hs.forms;have hlb:∀(w':World) (b:Nat),Below w.heap.size w w'->aU b 38 (.slice Ac c.length cc) w'->Calls Try.prog 34 #[.slice A2 s.lits.length c2,.func (.func 63) #[] #[.pointer (some ⟨b,0,none⟩)]] w' (aP bb w'):=by
  intro w' b hb hbx;rw[<-hbb];refine gZ _ (dE s c.length) s.lits _ B w' (hs.lits.low hb hB) (by have:=hb.size;omega) λk hk w1 ev hb1 hv=>?_
  rw[show ev=.int .i64 s.lits[k]from hv];have:=iA s.lits[k] b Ac c.length cc w1 ((hb1.cell (p:=⟨b,0,none⟩) hbx.lt).trans hbx.cell);unfold dE;rw[List.getElem?_eq_getElem hk];exact this
 have Hlb:=Lh hlb;clear hs hc hok hbn hbb hnone hlb hru;cases bn with
 | false=>
  have Hno:=Lh (Hnone.out rfl);go_enter Try.func49,Try.ntmps49;go_upto_region 1 with fail
  obtain⟨hx1,hx2,hB2,hz2⟩:=aO w (.cells #[.int .i64 s.rule,v1,(.slice A2 s.lits.length c2),v3,v4,v5] 45) (.cells #[.slice Ac c.length cc] 38);have hx1:dH w.heap.size 45 (.int .i64 s.rule) v1 ((.slice A2 s.lits.length c2)) v3 v4 v5 _:=hx1;have hx2:aU (w.heap.size+1) 38 (.slice Ac c.length cc) _:=hx2;generalize (w.alloc (.cells #[.int .i64 s.rule,v1,(.slice A2 s.lits.length c2),v3,v4,v5] 45)).alloc (.cells #[.slice Ac c.length cc] 38)=w2 at hx1 hx2 hB2 hz2 ⊢;obtain⟨y0,y1,y2,y3,y4,y5⟩:=hx1.cells;have x0:=hx2.cell;have HX1:=Lh hx1;have HX2:=Lh hx2;have HB2:=Lh hB2;have hnm:=aN s 1 1 0 false v1 _ v3 v4 v5 B w2 (HStp.out.low hB2 hB);have Hnm:=Lh hnm;clear hx1 hx2 hB2 hnm;go_wp2_with (
   go_at_call 46
   refine Hnm.out.mono ?_;rintro e w3 ⟨rfl,hb3⟩;rw[Hbn.out])
  refine bodyPost_ret (v:=.tuple #[.slice none 0 0,.bool false]) (by simp[results,Try.results49,go_sem]) rfl ?_;rw[Hno.out];refine⟨?_,_,rfl,λc h=>by cases h⟩;exact HB2.out.trans (hb3.mono (by omega))
 | true=>
  cases bb with
  | true=>
   have Hno:=Lh (Hnone.out rfl);go_enter Try.func49,Try.ntmps49;go_upto_region 1 with fail
   obtain⟨hx1,hx2,hB2,hz2⟩:=aO w (.cells #[.int .i64 s.rule,v1,(.slice A2 s.lits.length c2),v3,v4,v5] 45) (.cells #[.slice Ac c.length cc] 38);have hx1:dH w.heap.size 45 (.int .i64 s.rule) v1 ((.slice A2 s.lits.length c2)) v3 v4 v5 _:=hx1;have hx2:aU (w.heap.size+1) 38 (.slice Ac c.length cc) _:=hx2;generalize (w.alloc (.cells #[.int .i64 s.rule,v1,(.slice A2 s.lits.length c2),v3,v4,v5] 45)).alloc (.cells #[.slice Ac c.length cc] 38)=w2 at hx1 hx2 hB2 hz2 ⊢;obtain⟨y0,y1,y2,y3,y4,y5⟩:=hx1.cells;have x0:=hx2.cell;have HX1:=Lh hx1;have HX2:=Lh hx2;have HB2:=Lh hB2;have hnm:=aN s 1 1 0 false v1 _ v3 v4 v5 B w2 (HStp.out.low hB2 hB);have Hnm:=Lh hnm;clear hx1 hx2 hB2 hnm;go_wp2_with (
    first
    | (
     go_at_call 46
     refine Hnm.out.mono ?_;rintro e w3 ⟨rfl,hb3⟩;rw[Hbn.out];have z2:=(hb3.cell (p:=⟨w.heap.size,2,none⟩) (show w.heap.size<w2.heap.size by omega)).trans y2;have Hb3:=Lh hb3;clear hb3)
    | (
     go_at_call 34
     refine(Hlb.out _ (w.heap.size+1) (HB2.out.trans (Hb3.out.mono (by omega))) (HX2.out.low Hb3.out)).mono ?_;rintro e w4 ⟨rfl,hb4⟩))
   refine bodyPost_ret (v:=.tuple #[.slice none 0 0,.bool false]) (by simp[results,Try.results49,go_sem]) rfl ?_;rw[Hno.out];refine⟨?_,_,rfl,λc h=>by cases h⟩;exact(HB2.out.trans (Hb3.out.mono (by omega))).trans (hb4.mono (by have:=Hb3.out.size;omega))
  | false=>
   have Hyes:=Lh (show cL s c=true from Hok.out);have hlen:s.lits.length=1:=by have:=Hbn.out;unfold aY at this;simp at this;exact this.1.1.2
   have hbad:dB s c=false:=Hbb.out;have hin:∀k,k<1->li s k<c.length/\s.lits[k]? =some (li s k:Int):=λk hk=>by
    unfold dB at hbad;have h1:dE s c.length k=false:=by
     cases h:dE s c.length k with
     | false=>rfl
     | true=>rw[eB (by rw[hlen];exact hk) h]at hbad;cases hbad
    unfold dE at h1;simp only[decide_eq_false_iff_not,not_or]at h1;have h3:k<s.lits.length:=(by rw[hlen];exact hk);unfold li;rw[List.getElem?_eq_getElem h3]at h1 ⊢;simp only[Option.getD_some]at h1 ⊢;exact⟨by omega,by rw[Int.toNat_of_nonneg (by omega)]⟩
   obtain⟨hi0,hi1⟩:=hin 0 (by omega);have hli:=HStp.out.lits;unfold bM at hli;obtain⟨a2,o2,rfl,ha2,ho2⟩:=Rd.leaf_at (f:=λn=>.int .i64 n) hli (k:=0) (by omega);obtain⟨i,hi⟩:∃i,li s 0=i:=⟨_,rfl⟩;rw[hi]at hi0 hi1;have e0:s.lits[0]'(by omega)=(i:Int):=by
    rw[List.getElem?_eq_getElem (by omega)]at hi1;exact Option.some.inj hi1
   simp only[e0,Nat.add_zero]at ho2;have Hi:=Lh hi;have Oi:=Lh ho2;have Hin:=Lh hin;rw[hlen]at HStp Hlb ⊢;clear hli ho2 hi hi1 e0 hin hbad hlen;go_enter Try.func49,Try.ntmps49;go_upto_region 1 with fail
   obtain⟨hx1,hx2,hB2,hz2⟩:=aO w (.cells #[.int .i64 s.rule,v1,(.slice (some ⟨a2,o2,none⟩) 1 c2),v3,v4,v5] 45) (.cells #[.slice Ac c.length cc] 38);have hx1:dH w.heap.size 45 (.int .i64 s.rule) v1 ((.slice (some ⟨a2,o2,none⟩) 1 c2)) v3 v4 v5 _:=hx1;have hx2:aU (w.heap.size+1) 38 (.slice Ac c.length cc) _:=hx2;generalize (w.alloc (.cells #[.int .i64 s.rule,v1,(.slice (some ⟨a2,o2,none⟩) 1 c2),v3,v4,v5] 45)).alloc (.cells #[.slice Ac c.length cc] 38)=w2 at hx1 hx2 hB2 hz2 ⊢;obtain⟨y0,y1,y2,y3,y4,y5⟩:=hx1.cells;have x0:=hx2.cell;have HX1:=Lh hx1;have HX2:=Lh hx2;have HB2:=Lh hB2;have hnm:=aN s 1 1 0 false v1 _ v3 v4 v5 B w2 (HStp.out.low hB2 hB);have Hnm:=Lh hnm;clear hx1 hx2 hB2 hnm;go_upto_region 6 with(
    first
    | (
     go_at_call 46
     refine Hnm.out.mono ?_;rintro e w3 ⟨rfl,hb3⟩;rw[Hbn.out];have z2:=(hb3.cell (p:=⟨w.heap.size,2,none⟩) (show w.heap.size<w2.heap.size by omega)).trans y2;have Hb3:=Lh hb3;clear hb3)
    | (
     go_at_call 34
     refine(Hlb.out _ (w.heap.size+1) (HB2.out.trans (Hb3.out.mono (by omega))) (HX2.out.low Hb3.out)).mono ?_;rintro e w4 ⟨rfl,hb4⟩;have Hb4:=Lh hb4;clear hb4))
   have z2:=(Hb4.out.cell (p:=⟨w.heap.size,2,none⟩) (show w.heap.size<w3.heap.size by have:=Hb3.out.size;omega)).trans z2;have hlow4:Below w.heap.size w w4:=(HB2.out.trans (Hb3.out.mono (by omega))).trans (Hb4.out.mono (by have:=Hb3.out.size;omega));have oi:=(hlow4.cell (p:=⟨a2,o2,none⟩) (show a2<w.heap.size by omega)).trans Oi.out;have hz3:=Hb3.out.size;have hz4:=Hb4.out.size;go_upto_region 7 with fail
   have hbx5:=aD w4 (.cells #[.int .i64 (i:Nat)] 3);have hxi5:aU w4.heap.size 3 (.int .i64 (i:Nat)) (w4.alloc (.cells #[.int .i64 (i:Nat)] 3)):=heap_alloc_new w4 _;generalize w4.alloc (.cells #[.int .i64 (i:Nat)] 3)=w5 at hbx5 hxi5 ⊢;have hx5:=((HX2.out.low Hb3.out).low Hb4.out).low hbx5;have hs5:=((HX1.out.low Hb3.out).low Hb4.out).low hbx5;have hlow5:Below w.heap.size w w5:=hlow4.trans (hbx5.mono (by omega));have hz5:=hbx5.size;have hzi5:=hxi5.lt;obtain⟨ab,off,n0,f1,ys1,A1,c1,f2,ys2,A3,c3,rfl,hxk,hab,k0,k1,k2,k3,k4,hr1,hr2⟩:=(Hc.out.low hlow5 hB).lt_at hi0;have hii:¬((c.length:Int)<=(i:Int)):=by omega
   obtain⟨zy0,-,zy2,zy3,-,-⟩:=hs5.cells;have Hx5:=Lh hx5;have Hs5:=Lh hs5;have Hxi5:=Lh hxi5;have Hlow5:=Lh hlow5;have Hxk:=Lh hxk;have HR1:=Lh hr1;have HR2:=Lh hr2;have habl:ab<w5.heap.size:=by omega
   have hxil:w4.heap.size<w5.heap.size:=hzi5;have hci:c[i]? =some ⟨n0,.mk f1 ys1,.mk f2 ys2⟩:=by rw[List.getElem?_eq_getElem hi0,hxk]
   have Hci:=Lh hci;clear hx5 hs5 hxi5 hlow5 hxk hr1 hr2 hbx5 hlow4 z2 oi y0 y1 y2 y3 y4 y5 x0 hci hzi5 Hlb Hnm;go_upto_region 11 with fail
   obtain⟨tb,htb⟩:∃b,(List.range i).any (jK c i)=b:=⟨_,rfl⟩;have hres:bA s c=if tb=true then some (c.eraseIdx i)else none:=by
    rw[Hsm.out,if_neg (by rw[Hyes.out];decide)];unfold mA;rw[Hi.out,htb]
   have hcc:c.length<=cc:=by
    obtain⟨A',c',e,h,-,-⟩:=Rd.cl_form Hc.out;injection e with _ _ e
    omega
   have hsl1:¬cc<i:=by omega
   have hsl2:¬((cc:Int)<(i:Int)):=by omega
   have Hres:=Lh hres;have Htb:=Lh htb;have hz50:=Hlow5.out.size;clear hres htb k0 k1 k2 k3 k4;refine rg 10 (λ_ w'=>Below w5.heap.size w5 w') ?_;intro wd hwd hbd;refine⟨?_,λhS=>?_⟩
   . exact hwd ▸ hbd
   refine tk 0 (.slice (some ⟨ab,off,none⟩) c.length cc) hS ?_ λhS=>?_
   . intro w' L hn hw;have q0:=(Hx5.out.low hw).cell;simp[execOp,go_sem,q0]
   refine tk 1 (.int .i64 (i:Nat)) hS ?_ λhS=>?_
   . intro w' L hn hw;have q1:=(Hxi5.out.low hw).cell;simp[execOp,go_sem,q1]
   refine tk 3 (.slice (some ⟨ab,off,none⟩) c.length cc) hS ?_ λhS=>?_
   . intro w' L hn hw;have q0:=(Hx5.out.low hw).cell;simp[execOp,go_sem,q0]
   refine tk 4 (.int .i64 (i:Nat)) hS ?_ λhS=>?_
   . intro w' L hn hw;have q1:=(Hxi5.out.low hw).cell;simp[execOp,go_sem,q1]
   refine tk 5 (.slice (some ⟨ab,off,none⟩) i cc) hS ?_ λhS=>?_
   . intros;simp[execOp,go_sem,hsl1,hsl2]
   refine ta 6 (.func (.func 66) #[] #[.pointer (some ⟨w.heap.size+1,0,none⟩),.pointer (some ⟨w4.heap.size,0,none⟩)]) hS λhS=>?_
   refine so 2 ?_;have hbd5:Below w5.heap.size w5 wd:=hwd ▸ hbd;have hzd:wd.heap.size=w5.heap.size:=by rw[hwd]
   have hlowd:Below w.heap.size w wd:=Hlow5.out.trans (hbd5.mono hz50);have hc2:=cT c i _ (λb=>b<B) wd ((Hc.out.low hlowd hB).rdP (by omega)) hi0 (by omega);refine aG ?_ hc2 ?_
   . simp[execOp,resolve,invoke,go_sem]
   rintro e w6 ⟨v42,rfl,hown6,hb6⟩;refine⟨_,rfl,?_⟩;refine gS ?_ λhS=>?_
   . exact hS.trans (hb6.mono hS.size)
   refine so 7 ?_;have hz6:=hb6.size;have hlow6:Below w.heap.size w w6:=hlowd.trans (hb6.mono (by omega));have hc7:=aJ5 c i ab off cc (w.heap.size+1) w4.heap.size B w6 (Hc.out.low hlow6 hB) hi0 ((Hx5.out.low hbd5).low hb6) ((Hxi5.out.low hbd5).low hb6) (by omega);rw[Htb.out]at hc7;refine aG ?_ hc7 ?_
   . simp[execOp,resolve,invoke,go_sem]
   rintro e w7 ⟨rfl,hb7⟩;refine⟨_,rfl,?_⟩;refine gS ?_ λhS=>?_
   . exact hS.trans (hb7.mono hS.size)
   refine ta 8 (v42) hS λhS=>?_
   refine ta 9 (.bool tb) hS λhS=>?_
   refine dn ?_;have hfin:Below w.heap.size w w7:=Hlow5.out.trans (hS.mono hz50);have hrd7:=hown6.low hb7;have Hfin:=Lh hfin;have Hrd7:=Lh hrd7;clear hS hwd hbd hown6 hfin hb6 hb7 hrd7 hzd hc2 hbd5 hlowd hc7;go_wp2_with fail;refine bodyPost_ret (v:=.tuple #[v42,.bool tb]) (by simp[results,Try.results49,go_sem]) rfl ?_;rw[Hres.out];cases tb with
   | false=>exact⟨Hfin.out,v42,rfl,λc h=>by cases h⟩
   | true=>
    refine⟨Hfin.out,v42,rfl,λc' h=>?_⟩;obtain rfl:=Option.some.inj h;exact(Hrd7.out.rd (by rw[List.length_map];have:=List.length_eraseIdx_le c i;omega)).rd'
theorem fU (c:Cl)(i:Nat):aR (c.eraseIdx i)<=aR c:=by
 unfold aR;induction c generalizing i with
 | nil=>simp
 | cons x c ih=>
  cases i with
  | zero=>simp
  | succ i=>
   have:=ih i;simp only[List.eraseIdx_cons_succ,List.map_cons,List.sum_cons];omega
theorem jH (c d:Cl):aR (c++d)=aR c+aR d:=by unfold aR;rw[List.map_append,List.sum_append]
theorem vK (s:Sp)(c:Cl)(v1 v2 v3 v4 v5 vc:Value)(B:Nat)(w:World)(hru:s.rule=2)(hs:RdS w B s v1 v2 v3 v4 v5)(hc:Rd w B (aT c) vc)(hB:B<=w.heap.size)(hcn:c.length<=1000)(hsz:∀x∈c,aK x.l<=300/\aK x.r<=300)(hzc:aR c<=1000000):
 Calls Try.prog 49 #[.agg #[.int .i64 s.rule,v1,v2,v3,v4,v5],vc] w (oN (bA s c) w):=by
 have hq6:(s.rule==6)=false:=by rw[hru];rfl
 have hq7:(s.rule==7)=false:=by rw[hru];rfl
 have hq2:(s.rule==2)=true:=by rw[hru];rfl
 have hsm:bA s c=if cL s c=false then none else lP s c:=by
  unfold bA;rw[if_neg (by rw[hru];decide:¬s.rule=6),if_neg (by rw[hru];decide:¬s.rule=7),if_pos hru]
 have Hsm:=Lh hsm;clear hsm;obtain⟨Ac,cc,rfl,-,-,-⟩:=Rd.cl_form hc;have HStp:=Lh hs;have Hc:=Lh hc;have hq3:(s.rule==3)=false:=by rw[hru];rfl
 have hok:cL s c=(aY s 1 1 0 false&& !dB s c):=by unfold cL;rw[hru];rfl
 obtain⟨bn,hbn⟩:∃b,aY s 1 1 0 false=b:=⟨_,rfl⟩;obtain⟨bb,hbb⟩:∃b,dB s c=b:=⟨_,rfl⟩;rw[hbn,hbb]at hok;have hnone:(bn&& !bb)=false->bA s c=none:=λh=>by unfold bA;rw[if_pos (hok.trans h)]
 have Hbn:=Lh hbn;have Hbb:=Lh hbb;have Hok:=Lh hok;have Hrul:=Lh hru;have Hnone:=Lh hnone;obtain⟨-,-,A2,c2,-,-,-,-,-,-,-,rfl,-⟩:=hs.forms;have hlb:∀(w':World) (b:Nat),Below w.heap.size w w'->aU b 38 (.slice Ac c.length cc) w'->Calls Try.prog 34 #[.slice A2 s.lits.length c2,.func (.func 63) #[] #[.pointer (some ⟨b,0,none⟩)]] w' (aP bb w'):=by
  intro w' b hb hbx;rw[<-hbb];refine gZ _ (dE s c.length) s.lits _ B w' (hs.lits.low hb hB) (by have:=hb.size;omega) λk hk w1 ev hb1 hv=>?_
  rw[show ev=.int .i64 s.lits[k]from hv];have:=iA s.lits[k] b Ac c.length cc w1 ((hb1.cell (p:=⟨b,0,none⟩) hbx.lt).trans hbx.cell);unfold dE;rw[List.getElem?_eq_getElem hk];exact this
 have Hlb:=Lh hlb;clear hs hc hok hbn hbb hnone hlb hru;cases bn with
 | false=>
  have Hno:=Lh (Hnone.out rfl);go_enter Try.func49,Try.ntmps49;go_upto_region 1 with fail
  obtain⟨hx1,hx2,hB2,hz2⟩:=aO w (.cells #[.int .i64 s.rule,v1,(.slice A2 s.lits.length c2),v3,v4,v5] 45) (.cells #[.slice Ac c.length cc] 38);have hx1:dH w.heap.size 45 (.int .i64 s.rule) v1 ((.slice A2 s.lits.length c2)) v3 v4 v5 _:=hx1;have hx2:aU (w.heap.size+1) 38 (.slice Ac c.length cc) _:=hx2;generalize (w.alloc (.cells #[.int .i64 s.rule,v1,(.slice A2 s.lits.length c2),v3,v4,v5] 45)).alloc (.cells #[.slice Ac c.length cc] 38)=w2 at hx1 hx2 hB2 hz2 ⊢;obtain⟨y0,y1,y2,y3,y4,y5⟩:=hx1.cells;have x0:=hx2.cell;have HX1:=Lh hx1;have HX2:=Lh hx2;have HB2:=Lh hB2;have hnm:=aN s 1 1 0 false v1 _ v3 v4 v5 B w2 (HStp.out.low hB2 hB);have Hnm:=Lh hnm;clear hx1 hx2 hB2 hnm;go_wp2_with (
   go_at_call 46
   refine Hnm.out.mono ?_;rintro e w3 ⟨rfl,hb3⟩;rw[Hbn.out])
  refine bodyPost_ret (v:=.tuple #[.slice none 0 0,.bool false]) (by simp[results,Try.results49,go_sem]) rfl ?_;rw[Hno.out];refine⟨?_,_,rfl,λc h=>by cases h⟩;exact HB2.out.trans (hb3.mono (by omega))
 | true=>
  cases bb with
  | true=>
   have Hno:=Lh (Hnone.out rfl);go_enter Try.func49,Try.ntmps49;go_upto_region 1 with fail
   obtain⟨hx1,hx2,hB2,hz2⟩:=aO w (.cells #[.int .i64 s.rule,v1,(.slice A2 s.lits.length c2),v3,v4,v5] 45) (.cells #[.slice Ac c.length cc] 38);have hx1:dH w.heap.size 45 (.int .i64 s.rule) v1 ((.slice A2 s.lits.length c2)) v3 v4 v5 _:=hx1;have hx2:aU (w.heap.size+1) 38 (.slice Ac c.length cc) _:=hx2;generalize (w.alloc (.cells #[.int .i64 s.rule,v1,(.slice A2 s.lits.length c2),v3,v4,v5] 45)).alloc (.cells #[.slice Ac c.length cc] 38)=w2 at hx1 hx2 hB2 hz2 ⊢;obtain⟨y0,y1,y2,y3,y4,y5⟩:=hx1.cells;have x0:=hx2.cell;have HX1:=Lh hx1;have HX2:=Lh hx2;have HB2:=Lh hB2;have hnm:=aN s 1 1 0 false v1 _ v3 v4 v5 B w2 (HStp.out.low hB2 hB);have Hnm:=Lh hnm;clear hx1 hx2 hB2 hnm;go_wp2_with (
    first
    | (
     go_at_call 46
     refine Hnm.out.mono ?_;rintro e w3 ⟨rfl,hb3⟩;rw[Hbn.out];have z2:=(hb3.cell (p:=⟨w.heap.size,2,none⟩) (show w.heap.size<w2.heap.size by omega)).trans y2;have Hb3:=Lh hb3;clear hb3)
    | (
     go_at_call 34
     refine(Hlb.out _ (w.heap.size+1) (HB2.out.trans (Hb3.out.mono (by omega))) (HX2.out.low Hb3.out)).mono ?_;rintro e w4 ⟨rfl,hb4⟩))
   refine bodyPost_ret (v:=.tuple #[.slice none 0 0,.bool false]) (by simp[results,Try.results49,go_sem]) rfl ?_;rw[Hno.out];refine⟨?_,_,rfl,λc h=>by cases h⟩;exact(HB2.out.trans (Hb3.out.mono (by omega))).trans (hb4.mono (by have:=Hb3.out.size;omega))
  | false=>
   have Hyes:=Lh (show cL s c=true from Hok.out);have hlen:s.lits.length=1:=by have:=Hbn.out;unfold aY at this;simp at this;exact this.1.1.2
   have hbad:dB s c=false:=Hbb.out;have hin:∀k,k<1->li s k<c.length/\s.lits[k]? =some (li s k:Int):=λk hk=>by
    unfold dB at hbad;have h1:dE s c.length k=false:=by
     cases h:dE s c.length k with
     | false=>rfl
     | true=>rw[eB (by rw[hlen];exact hk) h]at hbad;cases hbad
    unfold dE at h1;simp only[decide_eq_false_iff_not,not_or]at h1;have h3:k<s.lits.length:=(by rw[hlen];exact hk);unfold li;rw[List.getElem?_eq_getElem h3]at h1 ⊢;simp only[Option.getD_some]at h1 ⊢;exact⟨by omega,by rw[Int.toNat_of_nonneg (by omega)]⟩
   obtain⟨hi0,hi1⟩:=hin 0 (by omega);have hli:=HStp.out.lits;unfold bM at hli;obtain⟨a2,o2,rfl,ha2,ho2⟩:=Rd.leaf_at (f:=λn=>.int .i64 n) hli (k:=0) (by omega);obtain⟨i,hi⟩:∃i,li s 0=i:=⟨_,rfl⟩;rw[hi]at hi0 hi1;have e0:s.lits[0]'(by omega)=(i:Int):=by
    rw[List.getElem?_eq_getElem (by omega)]at hi1;exact Option.some.inj hi1
   simp only[e0,Nat.add_zero]at ho2;have Hi:=Lh hi;have Oi:=Lh ho2;have Hin:=Lh hin;rw[hlen]at HStp Hlb ⊢;clear hli ho2 hi hi1 e0 hin hbad hlen;go_enter Try.func49,Try.ntmps49;go_upto_region 1 with fail
   obtain⟨hx1,hx2,hB2,hz2⟩:=aO w (.cells #[.int .i64 s.rule,v1,(.slice (some ⟨a2,o2,none⟩) 1 c2),v3,v4,v5] 45) (.cells #[.slice Ac c.length cc] 38);have hx1:dH w.heap.size 45 (.int .i64 s.rule) v1 ((.slice (some ⟨a2,o2,none⟩) 1 c2)) v3 v4 v5 _:=hx1;have hx2:aU (w.heap.size+1) 38 (.slice Ac c.length cc) _:=hx2;generalize (w.alloc (.cells #[.int .i64 s.rule,v1,(.slice (some ⟨a2,o2,none⟩) 1 c2),v3,v4,v5] 45)).alloc (.cells #[.slice Ac c.length cc] 38)=w2 at hx1 hx2 hB2 hz2 ⊢;obtain⟨y0,y1,y2,y3,y4,y5⟩:=hx1.cells;have x0:=hx2.cell;have HX1:=Lh hx1;have HX2:=Lh hx2;have HB2:=Lh hB2;have hnm:=aN s 1 1 0 false v1 _ v3 v4 v5 B w2 (HStp.out.low hB2 hB);have Hnm:=Lh hnm;clear hx1 hx2 hB2 hnm;go_upto_region 6 with(
    first
    | (
     go_at_call 46
     refine Hnm.out.mono ?_;rintro e w3 ⟨rfl,hb3⟩;rw[Hbn.out];have z2:=(hb3.cell (p:=⟨w.heap.size,2,none⟩) (show w.heap.size<w2.heap.size by omega)).trans y2;have Hb3:=Lh hb3;clear hb3)
    | (
     go_at_call 34
     refine(Hlb.out _ (w.heap.size+1) (HB2.out.trans (Hb3.out.mono (by omega))) (HX2.out.low Hb3.out)).mono ?_;rintro e w4 ⟨rfl,hb4⟩;have Hb4:=Lh hb4;clear hb4))
   have z2:=(Hb4.out.cell (p:=⟨w.heap.size,2,none⟩) (show w.heap.size<w3.heap.size by have:=Hb3.out.size;omega)).trans z2;have hlow4:Below w.heap.size w w4:=(HB2.out.trans (Hb3.out.mono (by omega))).trans (Hb4.out.mono (by have:=Hb3.out.size;omega));have oi:=(hlow4.cell (p:=⟨a2,o2,none⟩) (show a2<w.heap.size by omega)).trans Oi.out;have hz3:=Hb3.out.size;have hz4:=Hb4.out.size;go_upto_region 7 with fail
   have hbx5:=aD w4 (.cells #[.int .i64 (i:Nat)] 3);have hxi5:aU w4.heap.size 3 (.int .i64 (i:Nat)) (w4.alloc (.cells #[.int .i64 (i:Nat)] 3)):=heap_alloc_new w4 _;generalize w4.alloc (.cells #[.int .i64 (i:Nat)] 3)=w5 at hbx5 hxi5 ⊢;have hx5:=((HX2.out.low Hb3.out).low Hb4.out).low hbx5;have hs5:=((HX1.out.low Hb3.out).low Hb4.out).low hbx5;have hlow5:Below w.heap.size w w5:=hlow4.trans (hbx5.mono (by omega));have hz5:=hbx5.size;have hzi5:=hxi5.lt;obtain⟨ab,off,n0,f1,ys1,A1,c1,f2,ys2,A3,c3,rfl,hxk,hab,k0,k1,k2,k3,k4,hr1,hr2⟩:=(Hc.out.low hlow5 hB).lt_at hi0;have hii:¬((c.length:Int)<=(i:Int)):=by omega
   obtain⟨zy0,-,zy2,zy3,-,-⟩:=hs5.cells;have Hx5:=Lh hx5;have Hs5:=Lh hs5;have Hxi5:=Lh hxi5;have Hlow5:=Lh hlow5;have Hxk:=Lh hxk;have HR1:=Lh hr1;have HR2:=Lh hr2;have habl:ab<w5.heap.size:=by omega
   have hxil:w4.heap.size<w5.heap.size:=hzi5;have hci:c[i]? =some ⟨n0,.mk f1 ys1,.mk f2 ys2⟩:=by rw[List.getElem?_eq_getElem hi0,hxk]
   have Hci:=Lh hci;clear hx5 hs5 hxi5 hlow5 hxk hr1 hr2 hbx5 hlow4 z2 oi y0 y1 y2 y3 y4 y5 x0 hci hzi5 Hlb Hnm;have hz50:=Hlow5.out.size;have hres':∀u,cB (.mk f1 ys1) (.mk f2 ys2)=u->bA s c=(match u with | some σ=>if n0=true then some (gU σ (c.eraseIdx i))else none | none=>none):=λu hu=>by
    rw[Hsm.out,if_neg (by rw[Hyes.out];decide)];unfold lP;rw[Hi.out,Hci.out];simp only[hu];all_goals (cases u <;> rfl)
   obtain⟨u,hu⟩:∃u,cB (.mk f1 ys1) (.mk f2 ys2)=u:=⟨_,rfl⟩;have hres:=hres' u hu;clear hres';have Hres:=Lh hres;have Hu:=Lh hu;have hmem:(⟨n0,.mk f1 ys1,.mk f2 ys2⟩:Lt)∈c:=by rw[<-Hxk.out];exact List.getElem_mem hi0
   have hsx:=hsz _ hmem;simp only[aK]at hsx;have hcx:∀w',Below w5.heap.size w5 w'->w'.cell? ⟨w.heap.size+1,0,none⟩=some (.slice (some ⟨ab,off,none⟩) c.length cc)/\w'.cell? ⟨w4.heap.size,0,none⟩=some (.int .i64 (i:Nat))/\
    w'.cell? ⟨ab,off+i*5,none⟩=some (.bool n0)/\w'.cell? ⟨ab,off+i*5+1,none⟩=some (.int .i64 f1)/\w'.cell? ⟨ab,off+i*5+2,none⟩=some (.slice A1 ys1.length c1)/\w'.cell? ⟨ab,off+i*5+3,none⟩=some (.int .i64 f2)/\w'.cell? ⟨ab,off+i*5+4,none⟩=some (.slice A3 ys2.length c3):=λw' hb=>
    ⟨(Hx5.out.low hb).cell,(Hxi5.out.low hb).cell,(hb.cell (p:=⟨ab,off+i*5,none⟩) habl).trans k0,(hb.cell (p:=⟨ab,off+i*5+1,none⟩) habl).trans k1,(hb.cell (p:=⟨ab,off+i*5+2,none⟩) habl).trans k2,(hb.cell (p:=⟨ab,off+i*5+3,none⟩) habl).trans k3,(hb.cell (p:=⟨ab,off+i*5+4,none⟩) habl).trans k4⟩
   have Hcx:=Lh hcx;clear hres hu k0 k1 k2 k3 k4 hcx hmem;go_upto_region 13 with fail
   refine rg 16 (λ_ w'=>Below w5.heap.size w5 w') ?_;intro wd hwd hbd;refine⟨?_,λhS=>?_⟩
   . exact hwd ▸ hbd
   refine tk 0 (.slice (some ⟨ab,off,none⟩) c.length cc) hS ?_ λhS=>?_
   . intro w' L hn hw;obtain⟨q0,q1,q2,q3,q4,q5,q6⟩:=Hcx.out w' hw;simp[execOp,go_sem,q0]
   refine tk 1 (.int .i64 (i:Nat)) hS ?_ λhS=>?_
   . intro w' L hn hw;obtain⟨q0,q1,q2,q3,q4,q5,q6⟩:=Hcx.out w' hw;simp[execOp,go_sem,q1]
   refine tk 2 (.pointer (some ⟨ab,off+i*5,none⟩)) hS ?_ λhS=>?_
   . intros;simp[execOp,go_sem,hi0,hii]
   refine ta 3 (.pointer (some ⟨ab,off+i*5+1,none⟩)) hS λhS=>?_
   refine tk 4 (.agg #[.int .i64 f1,.slice A1 ys1.length c1]) hS ?_ λhS=>?_
   . intro w' L hn hw;obtain⟨q0,q1,q2,q3,q4,q5,q6⟩:=Hcx.out w' hw;simp[execOp,go_sem,q3,q4]
   refine tk 5 (.slice (some ⟨ab,off,none⟩) c.length cc) hS ?_ λhS=>?_
   . intro w' L hn hw;obtain⟨q0,q1,q2,q3,q4,q5,q6⟩:=Hcx.out w' hw;simp[execOp,go_sem,q0]
   refine tk 6 (.int .i64 (i:Nat)) hS ?_ λhS=>?_
   . intro w' L hn hw;obtain⟨q0,q1,q2,q3,q4,q5,q6⟩:=Hcx.out w' hw;simp[execOp,go_sem,q1]
   refine tk 7 (.pointer (some ⟨ab,off+i*5,none⟩)) hS ?_ λhS=>?_
   . intros;simp[execOp,go_sem,hi0,hii]
   refine ta 8 (.pointer (some ⟨ab,off+i*5+3,none⟩)) hS λhS=>?_
   refine tk 9 (.agg #[.int .i64 f2,.slice A3 ys2.length c3]) hS ?_ λhS=>?_
   . intro w' L hn hw;obtain⟨q0,q1,q2,q3,q4,q5,q6⟩:=Hcx.out w' hw;simp[execOp,go_sem,q5,q6]
   refine so 10 ?_;have hbd5:Below w5.heap.size w5 wd:=hwd ▸ hbd;have hzd:wd.heap.size=w5.heap.size:=by rw[hwd]
   have hc10:=oL f1 f2 ys1 ys2 _ _ B wd (HR1.out.low hbd5 (by omega)) (HR2.out.low hbd5 (by omega)) (by omega) (by omega) (by omega);rw[Hu.out]at hc10;refine aG ?_ hc10 ?_
   . simp[execOp,resolve,invoke,go_sem]
   rintro e w6 ⟨mv,rfl,hum6,hb6⟩;refine⟨_,rfl,?_⟩;refine gS ?_ λhS=>?_
   . exact hS.trans (hb6.mono hS.size)
   refine ta 11 (.tuple #[mv,.bool u.isSome]) hS λhS=>?_
   refine ta 12 (mv) hS λhS=>?_
   refine ta 13 (.bool u.isSome) hS λhS=>?_
   refine ta 14 (mv) hS λhS=>?_
   refine ta 15 (.bool u.isSome) hS λhS=>?_
   refine dn ?_;have hz6:=hb6.size;have Hum6:=Lh hum6;have Hlow6:=Lh hS;clear hS hwd hbd hum6 hb6 hc10 hbd5;cases u with
   | none=>
    simp only[Option.isSome_none,Option.isSome_some,Option.getD_none,Option.getD_some]at Hum6 ⊢;go_upto_region 14 with fail
    refine rg 15 (λ_ w'=>Below w6.heap.size w6 w') ?_;intro wd hwd hbd;refine⟨?_,λhS=>?_⟩
    . exact hwd ▸ hbd
    refine ta 0 (mv) hS λhS=>?_
    refine tk 1 (.slice (some ⟨ab,off,none⟩) c.length cc) hS ?_ λhS=>?_
    . intro w' L hn hw;obtain⟨q0,q1,q2,q3,q4,q5,q6⟩:=Hcx.out w' (Hlow6.out.trans (hw.mono (by have:=Hlow6.out.size;omega)));simp[execOp,go_sem,q0]
    refine tk 2 (.int .i64 (i:Nat)) hS ?_ λhS=>?_
    . intro w' L hn hw;obtain⟨q0,q1,q2,q3,q4,q5,q6⟩:=Hcx.out w' (Hlow6.out.trans (hw.mono (by have:=Hlow6.out.size;omega)));simp[execOp,go_sem,q1]
    refine ta 5 (.bool false) hS λhS=>?_
    refine so 3 ?_;have hbd6:Below w6.heap.size w6 wd:=hwd ▸ hbd;have hzd6:wd.heap.size=w6.heap.size:=(by rw[hwd]);have hz56:=Hlow6.out.size;have hlowd:Below w.heap.size w wd:=Hlow5.out.trans ((Hlow6.out.trans (hbd6.mono hz56)).mono hz50);have hc3:=cT c i _ (λb=>b<B) wd ((Hc.out.low hlowd hB).rdP (by omega)) hi0 (by omega);refine aG ?_ hc3 ?_
    . simp[execOp,resolve,invoke,go_sem]
    rintro e w7 ⟨v90,rfl,hown7,hb7⟩;refine⟨_,rfl,?_⟩;refine gS ?_ λhS=>?_
    . exact hS.trans (hb7.mono hS.size)
    refine so 4 ?_;have hrd7:=(hown7.rd (by rw[List.length_map];have:=List.length_eraseIdx_le c i;omega)).rd';have hze:=fU c i;have hc4:=gN _ mv _ (c.eraseIdx i) v90 w7.heap.size w7 hrd7 (Nat.le_refl _) (by omega) ((Hum6.out.low hbd6).low hb7);refine aG ?_ hc4 ?_
    . simp[execOp,resolve,invoke,go_sem]
    rintro e w8 ⟨v91,rfl,hown8,hb8⟩;refine⟨_,rfl,?_⟩;refine gS ?_ λhS=>?_
    . exact hS.trans (hb8.mono hS.size)
    refine ta 6 (.bool false) hS λhS=>?_
    refine sk 7 hS λhS=>?_
    refine sk 8 hS λhS=>?_
    refine sk 9 hS λhS=>?_
    refine sk 10 hS λhS=>?_
    refine sk 11 hS λhS=>?_
    refine ta 12 (.bool false) hS λhS=>?_
    refine ta 13 (v91) hS λhS=>?_
    refine ta 14 (.bool false) hS λhS=>?_
    refine dn ?_;have hfin:Below w.heap.size w w8:=Hlow5.out.trans ((Hlow6.out.trans (hS.mono hz56)).mono hz50);have Hfin:=Lh hfin;have Hown8:=Lh hown8;clear hS hwd hbd hown7 hown8 hfin hb7 hb8 hrd7 hzd6 hc3 hc4 hbd6 hlowd;go_wp2_with fail;refine bodyPost_ret (v:=.tuple #[v91,.bool false]) (by simp[results,Try.results49,go_sem]) rfl ?_;rw[Hres.out];exact⟨Hfin.out,v91,rfl,λc h=>by cases h⟩
   | some σ=>
    simp only[Option.isSome_none,Option.isSome_some,Option.getD_none,Option.getD_some]at Hum6 ⊢;go_upto_region 14 with fail
    refine rg 15 (λ_ w'=>Below w6.heap.size w6 w') ?_;intro wd hwd hbd;refine⟨?_,λhS=>?_⟩
    . exact hwd ▸ hbd
    refine ta 0 (mv) hS λhS=>?_
    refine tk 1 (.slice (some ⟨ab,off,none⟩) c.length cc) hS ?_ λhS=>?_
    . intro w' L hn hw;obtain⟨q0,q1,q2,q3,q4,q5,q6⟩:=Hcx.out w' (Hlow6.out.trans (hw.mono (by have:=Hlow6.out.size;omega)));simp[execOp,go_sem,q0]
    refine tk 2 (.int .i64 (i:Nat)) hS ?_ λhS=>?_
    . intro w' L hn hw;obtain⟨q0,q1,q2,q3,q4,q5,q6⟩:=Hcx.out w' (Hlow6.out.trans (hw.mono (by have:=Hlow6.out.size;omega)));simp[execOp,go_sem,q1]
    refine ta 5 (.bool true) hS λhS=>?_
    refine so 3 ?_;have hbd6:Below w6.heap.size w6 wd:=hwd ▸ hbd;have hzd6:wd.heap.size=w6.heap.size:=(by rw[hwd]);have hz56:=Hlow6.out.size;have hlowd:Below w.heap.size w wd:=Hlow5.out.trans ((Hlow6.out.trans (hbd6.mono hz56)).mono hz50);have hc3:=cT c i _ (λb=>b<B) wd ((Hc.out.low hlowd hB).rdP (by omega)) hi0 (by omega);refine aG ?_ hc3 ?_
    . simp[execOp,resolve,invoke,go_sem]
    rintro e w7 ⟨v90,rfl,hown7,hb7⟩;refine⟨_,rfl,?_⟩;refine gS ?_ λhS=>?_
    . exact hS.trans (hb7.mono hS.size)
    refine so 4 ?_;have hrd7:=(hown7.rd (by rw[List.length_map];have:=List.length_eraseIdx_le c i;omega)).rd';have hze:=fU c i;have hc4:=gN _ mv _ (c.eraseIdx i) v90 w7.heap.size w7 hrd7 (Nat.le_refl _) (by omega) ((Hum6.out.low hbd6).low hb7);refine aG ?_ hc4 ?_
    . simp[execOp,resolve,invoke,go_sem]
    rintro e w8 ⟨v91,rfl,hown8,hb8⟩;refine⟨_,rfl,?_⟩;refine gS ?_ λhS=>?_
    . exact hS.trans (hb8.mono hS.size)
    refine ta 6 (.bool true) hS λhS=>?_
    refine tk 7 (.slice (some ⟨ab,off,none⟩) c.length cc) hS ?_ λhS=>?_
    . intro w' L hn hw;obtain⟨q0,q1,q2,q3,q4,q5,q6⟩:=Hcx.out w' (Hlow6.out.trans (hw.mono (by have:=Hlow6.out.size;omega)));simp[execOp,go_sem,q0]
    refine tk 8 (.int .i64 (i:Nat)) hS ?_ λhS=>?_
    . intro w' L hn hw;obtain⟨q0,q1,q2,q3,q4,q5,q6⟩:=Hcx.out w' (Hlow6.out.trans (hw.mono (by have:=Hlow6.out.size;omega)));simp[execOp,go_sem,q1]
    refine tk 9 (.pointer (some ⟨ab,off+i*5,none⟩)) hS ?_ λhS=>?_
    . intros;simp[execOp,go_sem,hi0,hii]
    refine ta 10 (.pointer (some ⟨ab,off+i*5,none⟩)) hS λhS=>?_
    refine tk 11 (.bool n0) hS ?_ λhS=>?_
    . intro w' L hn hw;obtain⟨q0,q1,q2,q3,q4,q5,q6⟩:=Hcx.out w' (Hlow6.out.trans (hw.mono (by have:=Hlow6.out.size;omega)));simp[execOp,go_sem,q2]
    refine ta 12 (.bool n0) hS λhS=>?_
    refine ta 13 (v91) hS λhS=>?_
    refine ta 14 (.bool n0) hS λhS=>?_
    refine dn ?_;have hfin:Below w.heap.size w w8:=Hlow5.out.trans ((Hlow6.out.trans (hS.mono hz56)).mono hz50);have Hfin:=Lh hfin;have Hown8:=Lh hown8;clear hS hwd hbd hown7 hown8 hfin hb7 hb8 hrd7 hzd6 hc3 hc4 hbd6 hlowd;go_wp2_with fail;refine bodyPost_ret (v:=.tuple #[v91,.bool n0]) (by simp[results,Try.results49,go_sem]) rfl ?_;rw[Hres.out];cases n0 with
    | false=>exact⟨Hfin.out,v91,rfl,λc h=>by cases h⟩
    | true=>
     refine⟨Hfin.out,v91,rfl,λc' h=>?_⟩;obtain rfl:=Option.some.inj h;exact(Hown8.out.rd (by unfold gU;rw[List.length_map,List.length_map];have:=List.length_eraseIdx_le c i;omega)).rd'
theorem aA9 {P:Program} {ops:Array Oper} {Q:Exit->Act->World->Prop} {S:Array Bool->World->Prop} (i:Nat) {o:Oper} {fuel:Nat} {aA listed':Array Bool} {a:Act} {w:World} (ho:ops[i]? =some o)(hl:aA.setIfInBounds i true=listed')
 (hg:Region.wanted o (yielded ops a.tmps)=true) (h:o.wp P a w (λa' w'=>S listed' w'/\aW P ops Q S fuel listed' a' w') Q):
 wpOp P ops Q i (λa' w'=>S (aA.setIfInBounds i true) w'/\aW P ops Q S fuel (aA.setIfInBounds i true) a' w') a w:=by
 subst hl;unfold wpOp;simp only[ho,hg,if_true];exact .inl h
end Go.Proofs.Ytiaoabfndnidiaa