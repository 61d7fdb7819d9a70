/-
 Part 4 of the proof over the checker:walks and plain laws.
-/
import Derived.Test.YtiaoabfndnidiaaMC
import Derived.StillTailTactics
import Derived.OrdersHeld
import Derived.Laws.EntriesVeiled
import Derived.OneCell
import Derived.Test.YtiaoabfndnidiaaMA
set_option maxRecDepth 100000
set_option maxHeartbeats 8000000
set_option linter.unusedSimpArgs false
set_option linter.unusedVariables false
namespace Go.Proofs.Ytiaoabfndnidiaa
open Go.RowKit
def kW (f:Int):Int:=if f<0 then f-48 else f
mutual
def gT:Tm->Tm
 | .mk f xs=>.mk (kW f) (bX xs)
def bX:List Tm->List Tm
 | []=>[]
 | x::xs=>gT x::bX xs
end
theorem dU:∀xs:List Tm,bX xs=xs.map gT
 | []=>rfl
 | x::xs=>by rw[bX,dU xs];rfl
-- No symbol lies so low that 48 less would be another.
mutual
def pD:Tm->Bool
 | .mk f xs=>decide (-9000000000000000000<=f)&&oS xs
def oS:List Tm->Bool
 | []=>true
 | x::xs=>pD x&&oS xs
end
theorem nY:∀{xs:List Tm} {k:Nat},oS xs=true->(h:k<xs.length)->pD xs[k]=true
 | x::xs,0,h,_=>by rw[oS]at h;simp at h;exact h.1
 | x::xs,k+1,h,hk=>by rw[oS]at h;simp at h;exact nY h.2 (by simpa using hk)
def rZ (bk base:Nat)(W:World)(fm:Int)(u:Value)(t:Tm)(trs:List (List Tr))(c b p s:Bool)(x27 x28 x29:Value)(w:World):Prop:=
 Upd W w (λj=>j=bk\/u.ownBlock=some j)/\aL bk 87 (.int .i64 fm) (if s then x29 else u) w/\
  (if p then bC w (λ_=>False) base 51 2 x29 (trs++[bB t])else bC w (λ_=>False) base 51 2 u trs)/\
  (c=true->p=false->∃A n,x27=.agg #[.int .i64 t.fn,.slice A t.args.length n]/\RdP w (λj=>W.heap.size<=j) (.sl 2 (aH t.args)) (.slice A t.args.length n)/\
   (b=true->∃g,x28=.slice (some ⟨g,0,none⟩) 1 1/\w.heap[g]? =some (.cells #[.int .i64 t.fn,.slice A t.args.length n] 51 (0,0))))
theorem qX (d:Nat):∀(f:Int) (xs:List Tm) (v:Value) (bf:Nat) (B:Nat) (w:World),aI xs<d->aI xs<=1000000000->pD (.mk f xs)=true->Rd w B (.sl 2 (aH xs)) v->B<=w.heap.size->bf<w.heap.size->
 w.cell? ⟨bf,0,none⟩=some (.func (.func 93) #[] #[.pointer (some ⟨bf,0,none⟩)])->
 Calls Try.prog 93 (#[.agg #[.int .i64 f,v]]++ #[.pointer (some ⟨bf,0,none⟩)]) w (TmR (λ_=>False) (gT (.mk f xs)) w):=by
 induction d with
 | zero=>intro f xs v bf B w h;omega
 | succ d ih=>
 intro f xs v bf B w hd hz hlow hr hB hbf hcb;obtain⟨A,c,rfl,hc,hn,hm⟩:=hr.tm_form;have hf: -9000000000000000000<=f:=by
  rw[pD]at hlow;simp at hlow
  exact hlow.1
 have Hr:=Lh hr;have Hih:=Lh ih;have Hlow:=Lh hlow;clear hr ih hlow;by_cases hneg:f<0
 . have hres:gT (.mk f xs)=.mk (f-48) (bX xs):=by rw[gT];unfold kW;simp[hneg]
   rw[hres];clear hres;go_enter Try.func93,Try.ntmps93;go_upto_region 5 with fail
   obtain⟨hx1,hx2,hB0,hz0⟩:=aO w (.cells #[.int .i64 (f-48),.slice none 0 0] 87) (.cells #[.int .i64 0,.slice none 0 0] 87);generalize (w.alloc (.cells #[.int .i64 (f-48),.slice none 0 0] 87)).alloc (.cells #[.int .i64 0,.slice none 0 0] 87)=w0 at hx1 hx2 hB0 hz0 ⊢;have hb1:aL w.heap.size 87 (.int .i64 (f-48)) (.slice none 0 0) w0:=hx1;have hb2:aL (w.heap.size+1) 87 (.int .i64 0) (.slice none 0 0) w0:=hx2;have HB0:=Lh hB0;have Hb1:=Lh hb1;have Hb2:=Lh hb2;clear hx1 hx2 hb1 hb2 hB0;go_wp2_with fail;go_loopw [19] (λi wr=>∃k:Nat,k<=xs.length/\i=.int .i64 k/\∃u,aL w.heap.size 87 (.int .i64 (f-48)) u wr/\bC wr (λ_=>False) w0.heap.size 51 2 u (aH (bX (xs.take k)))/\Upd w0 wr (λj=>j=w.heap.size)) (λi _=>xs.length-(intOf i).toNat)
   case atStart=>exact⟨0,Nat.zero_le _,rfl,_,Hb1.out,bC.nil _ _ _ _ _,Upd.refl _ _⟩
   obtain⟨k,hk,rfl,u,hbk,hown,hup⟩:=hrel;have Hbk:=Lh hbk;have Hown:=Lh hown;have Hup:=Lh hup;have hzr:=hup.size;clear hbk hown hup;by_cases hlt:k<xs.length
   . have hbw:Below w.heap.size w wr:=HB0.out.trans (Hup.out.toLow (by omega) (by rintro j rfl;omega));obtain⟨ab,off,f',ys,A',c',rfl,hxk,hab,k0,k1,hrd⟩:=(Hr.out.low hbw hB).tm_at hlt;have hcb1:=(hbw.cell (p:=⟨bf,0,none⟩) hbf).trans hcb;have HXK:=Lh hxk;have HRD:=Lh hrd;have HBW:=Lh hbw;clear hxk hrd hbw;go_upto_region 8 with fail
     have hbx5:=aD wr (.cells #[.int .i64 f',.slice A' ys.length c'] 51);have hbe5:aL wr.heap.size 51 (.int .i64 f') (.slice A' ys.length c') (wr.alloc (.cells #[.int .i64 f',.slice A' ys.length c'] 51)):=heap_alloc_new wr _;generalize wr.alloc (.cells #[.int .i64 f',.slice A' ys.length c'] 51)=w5 at hbx5 hbe5 ⊢;have hbk5:=Hbk.out.low hbx5;obtain⟨m0,m1,-⟩:=hbe5.cells;obtain⟨n0,n1,-⟩:=hbk5.cells;have hcb5:=(hbx5.cell (p:=⟨bf,0,none⟩) (by show bf<wr.heap.size;omega)).trans hcb1;have HX5:=Lh hbx5;have HK5:=Lh hbk5;have hz5:=hbx5.size;clear hbx5 hbk5 k0 k1;have hown5:=Hown.out.low HX5.out;obtain⟨t,ht⟩:∃t,gT (.mk f' ys)=t:=⟨_,rfl⟩;have Ht:=Lh ht;have Hown5:=Lh hown5;have hur:=Hown.out.lt;have Hup5:Hid (Upd w0 w5 (λj=>j=w.heap.size)):=Lh (Hup.out.trans (Upd.low HX5.out (λ_=>False)) (λ_ h=>h.elim));clear ht hown5 Hown Hbk;refine dC (sp:=λk=>k==4 || k==5 || k==6) (vals:=λx k=>match k with | 0=>(.pointer (some ⟨w.heap.size,1,none⟩):Value) | 1=>(u:Value) | 2=>(.func (.func 93) #[] #[.pointer (some ⟨bf,0,none⟩)]:Value) | 3=>(.agg #[.int .i64 f',.slice A' ys.length c']:Value) | 4=>(x 27:Value) | 5=>(x 28:Value) | 6=>(x 29:Value) | 7=>(.pointer (some ⟨w.heap.size,1,none⟩):Value) | 8=>(undef:Value) | _=>undef) (D:=λk=>match k with | 0=>some 23 | 1=>some 24 | 2=>some 25 | 3=>some 26 | 4=>some 27 | 5=>some 28 | 6=>some 29 | 7=>some 30 | _=>none) (J:=λaA x w'=>rZ w.heap.size w0.heap.size w5 (f-48) u t (aH (bX (xs.take k))) (aA.getD 4 false) (aA.getD 5 false) (aA.getD 6 false) (aA.getD 8 false) (x 27) (x 28) (x 29) w') (by kernel_rfl) ?hs ?hd ?hsp ?h0 ?step ?fin
     case hs=>
      intro i o ho;have hi:i<9:=(Array.getElem?_eq_some_iff.1 ho).1;rcases lt9 hi with rfl | rfl | rfl | rfl | rfl | rfl | rfl | rfl | rfl
      all_goals obtain rfl:=Option.some.inj (show some _=some o from ho)
      all_goals exact⟨by simp[Region.binds],rfl,λs hs=>by first | (cases hs;done) | (obtain rfl:=Option.some.inj hs;show _<33;decide)⟩
     case hd=>
      intro k k' s hk hk' h h';have hk:k<9:=hk;have hk':k'<9:=hk';refine dL (D:=[some 23,some 24,some 25,some 26,some 27,some 28,some 29,some 30,none]) (by decide) (k:=k) (k':=k') (s:=s) ?_ ?_
      . rcases lt9 hk with rfl | rfl | rfl | rfl | rfl | rfl | rfl | rfl | rfl
        all_goals exact congrArg some h
      rcases lt9 hk' with rfl | rfl | rfl | rfl | rfl | rfl | rfl | rfl | rfl
      all_goals exact congrArg some h'
     case hsp=>
      intro k s hk hks x;have hk:k<9:=hk;rcases lt9 hk with rfl | rfl | rfl | rfl | rfl | rfl | rfl | rfl | rfl
      all_goals first | rfl | (obtain rfl:=Option.some.inj hks;rfl) | cases hks
     case h0=>
      exact⟨(Upd.refl w5 _).drewN 1,HK5.out.low (Below.refl _ _).drew,Hown5.out.low (Below.refl _ _).drew,λh=>by simp at h⟩
     case step=>
      intro aA a w' i o hz hts hI hJ ho hl hdep;have hz:aA.size=9:=hz;have hi:i<9:=(Array.getElem?_eq_some_iff.1 ho).1;try dsimp only at hJ
      obtain⟨j1,j2,j3,j4⟩:=id hJ;have nF:∀j,j<w.heap.size->¬(j=w.heap.size\/u.ownBlock=some j):=by
       rintro j hj (h | h)
       . omega
       have:=(hur _ h).1;omega
      have nE:¬(wr.heap.size=w.heap.size\/u.ownBlock=some wr.heap.size):=by
       rintro(h | h)
       . omega
       have:=(hur _ h).2;omega
      have o2:=(World.cell?_of_block (a:=⟨bf,0,none⟩) (j1.block bf (by omega) (nF bf hbf))).trans hcb5;have o3:=(World.cell?_of_block (a:=⟨wr.heap.size,0,none⟩) (j1.block wr.heap.size (by have:=(Array.getElem?_eq_some_iff.1 hbe5).1;omega) nE)).trans m0;have o4:=(World.cell?_of_block (a:=⟨wr.heap.size,1,none⟩) (j1.block wr.heap.size (by have:=(Array.getElem?_eq_some_iff.1 hbe5).1;omega) nE)).trans m1;rcases lt9 hi with rfl | rfl | rfl | rfl | rfl | rfl | rfl | rfl | rfl
      all_goals obtain rfl:=Option.some.inj (show some _=some o from ho)
      . have e2:(a.tmps[2]?).getD undef=(.pointer (some ⟨w.heap.size,0,none⟩):Value):=gD (hI.fix 2 (by decide));refine aF ho rfl (aE (v:=.pointer (some ⟨w.heap.size,1,none⟩)) (w':=w') (by simp[execOp,e2,go_sem]) ⟨_,rfl,Or.inr rfl,?_⟩);have hK:=hJ;rw[<-aB (l:=aA) (i:=0) (k:=4) (by decide)]at hK;rw[<-aB (l:=aA) (i:=0) (k:=5) (by decide)]at hK;rw[<-aB (l:=aA) (i:=0) (k:=6) (by decide)]at hK;rw[<-aB (l:=aA) (i:=0) (k:=8) (by decide)]at hK;rw[<-aC (a:=a) (d:=23) (s:=27) (v:=.pointer (some ⟨w.heap.size,1,none⟩)) (by decide)]at hK;rw[<-aC (a:=a) (d:=23) (s:=28) (v:=.pointer (some ⟨w.heap.size,1,none⟩)) (by decide)]at hK;rw[<-aC (a:=a) (d:=23) (s:=29) (v:=.pointer (some ⟨w.heap.size,1,none⟩)) (by decide)]at hK;exact hK
      . have e23:(a.tmps[23]?).getD undef=(.pointer (some ⟨w.heap.size,1,none⟩):Value):=gD ((hI.done 0 23 (by simp) rfl (hdep ⟨0,.data⟩ (by simp) rfl)).resolve_left (by decide));have l8:aA.getD 8 false=false:=by
         cases h:aA.getD 8 false with
         | false=>rfl
         | true=>
          have:=hI.cl 8 _ rfl h ⟨1,.phase⟩ (by simp) rfl;rw[show (⟨1,Ground.phase⟩:Edge).on=1 from rfl,hl]at this;cases this
        have o1:w'.cell? ⟨w.heap.size,1,none⟩=some u:=by
         have:=j2.cells.2.1;rw[l8]at this;exact this
        refine aF ho rfl (aE (v:=u) (w':=w') (by simp[execOp,e23,o1,go_sem]) ⟨_,rfl,Or.inr rfl,?_⟩);have hK:=hJ;rw[<-aB (l:=aA) (i:=1) (k:=4) (by decide)]at hK;rw[<-aB (l:=aA) (i:=1) (k:=5) (by decide)]at hK;rw[<-aB (l:=aA) (i:=1) (k:=6) (by decide)]at hK;rw[<-aB (l:=aA) (i:=1) (k:=8) (by decide)]at hK;rw[<-aC (a:=a) (d:=24) (s:=27) (v:=u) (by decide)]at hK;rw[<-aC (a:=a) (d:=24) (s:=28) (v:=u) (by decide)]at hK;rw[<-aC (a:=a) (d:=24) (s:=29) (v:=u) (by decide)]at hK;exact hK
      . have e1:(a.tmps[1]?).getD undef=(.pointer (some ⟨bf,0,none⟩):Value):=gD (hI.fix 1 (by decide));refine aF ho rfl (aE (v:=.func (.func 93) #[] #[.pointer (some ⟨bf,0,none⟩)]) (w':=w') (by simp[execOp,e1,o2,go_sem]) ⟨_,rfl,Or.inr rfl,?_⟩);have hK:=hJ;rw[<-aB (l:=aA) (i:=2) (k:=4) (by decide)]at hK;rw[<-aB (l:=aA) (i:=2) (k:=5) (by decide)]at hK;rw[<-aB (l:=aA) (i:=2) (k:=6) (by decide)]at hK;rw[<-aB (l:=aA) (i:=2) (k:=8) (by decide)]at hK;rw[<-aC (a:=a) (d:=25) (s:=27) (v:=.func (.func 93) #[] #[.pointer (some ⟨bf,0,none⟩)]) (by decide)]at hK;rw[<-aC (a:=a) (d:=25) (s:=28) (v:=.func (.func 93) #[] #[.pointer (some ⟨bf,0,none⟩)]) (by decide)]at hK;rw[<-aC (a:=a) (d:=25) (s:=29) (v:=.func (.func 93) #[] #[.pointer (some ⟨bf,0,none⟩)]) (by decide)]at hK;exact hK
      . have e6:(a.tmps[6]?).getD undef=(.pointer (some ⟨wr.heap.size,0,none⟩):Value):=gD (hI.fix 6 (by decide));refine aF ho rfl (aE (v:=.agg #[.int .i64 f',.slice A' ys.length c']) (w':=w') (by simp[execOp,e6,o3,o4,go_sem]) ⟨_,rfl,Or.inr rfl,?_⟩);have hK:=hJ;rw[<-aB (l:=aA) (i:=3) (k:=4) (by decide)]at hK;rw[<-aB (l:=aA) (i:=3) (k:=5) (by decide)]at hK;rw[<-aB (l:=aA) (i:=3) (k:=6) (by decide)]at hK;rw[<-aB (l:=aA) (i:=3) (k:=8) (by decide)]at hK;rw[<-aC (a:=a) (d:=26) (s:=27) (v:=.agg #[.int .i64 f',.slice A' ys.length c']) (by decide)]at hK;rw[<-aC (a:=a) (d:=26) (s:=28) (v:=.agg #[.int .i64 f',.slice A' ys.length c']) (by decide)]at hK;rw[<-aC (a:=a) (d:=26) (s:=29) (v:=.agg #[.int .i64 f',.slice A' ys.length c']) (by decide)]at hK;exact hK
      . have e25:(a.tmps[25]?).getD undef=(.func (.func 93) #[] #[.pointer (some ⟨bf,0,none⟩)]:Value):=gD ((hI.done 2 25 (by simp) rfl (hdep ⟨2,.data⟩ (by simp) rfl)).resolve_left (by decide));have e26:(a.tmps[26]?).getD undef=(.agg #[.int .i64 f',.slice A' ys.length c']:Value):=gD ((hI.done 3 26 (by simp) rfl (hdep ⟨3,.data⟩ (by simp) rfl)).resolve_left (by decide));have l5:aA.getD 5 false=false:=by
         cases h:aA.getD 5 false with
         | false=>rfl
         | true=>
          have:=hI.cl 5 _ rfl h ⟨4,.data⟩ (by simp) rfl;rw[show (⟨4,Ground.data⟩:Edge).on=4 from rfl,hl]at this;cases this
        have l6:aA.getD 6 false=false:=by
         cases h:aA.getD 6 false with
         | false=>rfl
         | true=>
          have:=hI.cl 6 _ rfl h ⟨4,.chain⟩ (by simp) rfl;rw[show (⟨4,Ground.chain⟩:Edge).on=4 from rfl,hl]at this;cases this
        have l8:aA.getD 8 false=false:=by
         cases h:aA.getD 8 false with
         | false=>rfl
         | true=>
          have:=hI.cl 8 _ rfl h ⟨4,.phase⟩ (by simp) rfl;rw[show (⟨4,Ground.phase⟩:Edge).on=4 from rfl,hl]at this;cases this
        have hz5':=j1.size;have hRd:Rd w' B (.sl 2 (aH ys)) (.slice A' ys.length c'):=j1.keepRd (HRD.out.low HX5.out (by have:=HBW.out.size;omega)) (by have:=HBW.out.size;omega) (by
         rintro j (rfl | h)
         . exact hB
         have:=(hur _ h).1;omega)
        have hmem:=aZ hlt;rw[HXK.out]at hmem;simp only[aK]at hmem;have hlow2:=nY (by have:=Hlow.out;rw[pD]at this;simp at this;exact this.2) hlt;rw[HXK.out]at hlow2;refine aF ho rfl (aG (f:=93) (args:= #[.agg #[.int .i64 f',.slice A' ys.length c'],.pointer (some ⟨bf,0,none⟩)]) (w':=w') (by simp[execOp,resolve,invoke,e25,e26,go_sem]) (Hih.out f' ys _ bf B w' (by omega) (by omega) hlow2 hRd (by have:=HBW.out.size;omega) (by have:=HBW.out.size;omega) o2) ?_);rw[Ht.out];rintro e w'' ⟨A2,n2,rfl,hrd,hb⟩;refine⟨_,rfl,_,rfl,Or.inl (by decide),?_⟩;show rZ _ _ _ _ _ _ _ ((aA.setIfInBounds 4 true).getD 4 false) ((aA.setIfInBounds 4 true).getD 5 false) ((aA.setIfInBounds 4 true).getD 6 false) ((aA.setIfInBounds 4 true).getD 8 false) ((a.put (some 27) (.agg #[.int .i64 t.fn,.slice A2 t.args.length n2])).tmps.getD 27 undef) ((a.put (some 27) (.agg #[.int .i64 t.fn,.slice A2 t.args.length n2])).tmps.getD 28 undef) ((a.put (some 27) (.agg #[.int .i64 t.fn,.slice A2 t.args.length n2])).tmps.getD 29 undef) _
        rw[aJ (by omega)];rw[aB (l:=aA) (i:=4) (k:=5) (by decide)];rw[aB (l:=aA) (i:=4) (k:=6) (by decide)];rw[aB (l:=aA) (i:=4) (k:=8) (by decide)];rw[aS (a:=a) (s:=27) (by rw[hts];show 27<33;decide)];rw[aC (a:=a) (d:=27) (s:=28) (by decide)];rw[aC (a:=a) (d:=27) (s:=29) (by decide)];rw[l5,l6,l8];rw[l8]at j2;rw[l6]at j3;exact⟨j1.trans (Upd.low hb (λ_=>False)) (λ_ h=>h.elim),j2.low hb,j3.low hb,λ_ _=>⟨A2,n2,rfl,hrd.more λb hb' _=>by rcases hb' with hb' | hb';exact hb'.elim;show w5.heap.size<=b;omega,λh=>by cases h⟩⟩
      . have l27:=hdep ⟨4,.data⟩ (by simp) rfl;have l6:aA.getD 6 false=false:=by
         cases h:aA.getD 6 false with
         | false=>rfl
         | true=>
          have:=hI.cl 6 _ rfl h ⟨5,.data⟩ (by simp) rfl;rw[show (⟨5,Ground.data⟩:Edge).on=5 from rfl,hl]at this;cases this
        have l8:aA.getD 8 false=false:=by
         cases h:aA.getD 8 false with
         | false=>rfl
         | true=>
          have:=hI.cl 8 _ rfl h ⟨5,.phase⟩ (by simp) rfl;rw[show (⟨5,Ground.phase⟩:Edge).on=5 from rfl,hl]at this;cases this
        have l4:=hdep ⟨4,.data⟩ (by simp) rfl;obtain⟨A2,n2,hx27,hrd,_⟩:=j4 l4 l6;have e27:(a.tmps[27]?).getD undef=.agg #[.int .i64 t.fn,.slice A2 t.args.length n2]:=(by simpa using hx27);refine aF ho rfl (aE (v:=.slice (some ⟨w'.heap.size,0,none⟩) 1 1) (w':=w'.alloc (.cells #[.int .i64 t.fn,.slice A2 t.args.length n2] 51)) (by simp[execOp,e27,go_sem]) ⟨_,rfl,Or.inl (by decide),?_⟩);have hbx:=aD w' (.cells #[.int .i64 t.fn,.slice A2 t.args.length n2] 51);show rZ _ _ _ _ _ _ _ ((aA.setIfInBounds 5 true).getD 4 false) ((aA.setIfInBounds 5 true).getD 5 false) ((aA.setIfInBounds 5 true).getD 6 false) ((aA.setIfInBounds 5 true).getD 8 false) ((a.put (some 28) (.slice (some ⟨w'.heap.size,0,none⟩) 1 1)).tmps.getD 27 undef) ((a.put (some 28) (.slice (some ⟨w'.heap.size,0,none⟩) 1 1)).tmps.getD 28 undef) ((a.put (some 28) (.slice (some ⟨w'.heap.size,0,none⟩) 1 1)).tmps.getD 29 undef) _
        rw[aB (l:=aA) (i:=5) (k:=4) (by decide)];rw[aJ (by omega)];rw[aB (l:=aA) (i:=5) (k:=6) (by decide)];rw[aB (l:=aA) (i:=5) (k:=8) (by decide)];rw[aC (a:=a) (d:=28) (s:=27) (by decide)];rw[aS (a:=a) (s:=28) (by rw[hts];show 28<33;decide)];rw[aC (a:=a) (d:=28) (s:=29) (by decide)];rw[l4,l6,l8];rw[l8]at j2;rw[l6]at j3;exact⟨j1.alloc _,j2.low hbx,j3.low hbx,λ_ _=>⟨A2,n2,hx27,hrd.low hbx,λ_=>⟨_,rfl,heap_alloc_new w' _⟩⟩⟩
      . have e24:(a.tmps[24]?).getD undef=(u:Value):=gD ((hI.done 1 24 (by simp) rfl (hdep ⟨1,.data⟩ (by simp) rfl)).resolve_left (by decide));have l28:=hdep ⟨5,.data⟩ (by simp) rfl;have l8:aA.getD 8 false=false:=by
         cases h:aA.getD 8 false with
         | false=>rfl
         | true=>
          have:=hI.cl 8 _ rfl h ⟨6,.phase⟩ (by simp) rfl;rw[show (⟨6,Ground.phase⟩:Edge).on=6 from rfl,hl]at this;cases this
        have l5:=hdep ⟨5,.data⟩ (by simp) rfl;have l4:=hdep ⟨4,.chain⟩ (by simp) rfl;obtain⟨A2,n2,hx27,hrd,hb⟩:=j4 l4 hl;obtain⟨g,hx28,hg⟩:=hb l5;have e28:(a.tmps[28]?).getD undef=.slice (some ⟨g,0,none⟩) 1 1:=(by simpa using hx28);rw[hl]at j3;rw[l8]at j2;have hlk:(aH (bX (xs.take k))).length=k:=(by rw[bG,dU,List.length_map,List.length_take];omega);have hlz:=bL xs;have hz5':=j1.size;have hwz:=HBW.out.size;have hzu5:=Hup5.out.size;refine nO ho rfl (cK w' rfl (.tmp 24) (.tmp 28) _ rfl oX (M:=λ_=>False) (base:=w0.heap.size) (v:=u) (trs:=aH (bX (xs.take k))) (by simpa [go_sem]using e24) j3 (g:=g) (by simpa [go_sem]using e28) hg rfl (by intro y hy;simp at hy;rcases hy with rfl | rfl <;> rfl) (by rw[hlk];omega) (by rw[hlk];unfold maxLen;omega) (by omega) (bB t) (by rcases t with⟨tf,ta⟩;rfl) ?_ ?_)
        . intro j h h';have hj2:j<2:=h';rcases t with⟨tf,ta⟩
          rcases(by omega:j=0\/j=1)with rfl | rfl
          . exact .leaf _
          exact hrd.more λb hb _=>⟨.inr (by have:w5.heap.size<=b:=hb;omega),λe=>by
           have:=(hur _ e).2;have:w5.heap.size<=b:=hb;omega⟩
        intro v' w'' hown' hup' hat';refine⟨v',rfl,Or.inl (by decide),?_⟩;show rZ _ _ _ _ _ _ _ ((aA.setIfInBounds 6 true).getD 4 false) ((aA.setIfInBounds 6 true).getD 5 false) ((aA.setIfInBounds 6 true).getD 6 false) ((aA.setIfInBounds 6 true).getD 8 false) ((a.put (some 29) v').tmps.getD 27 undef) ((a.put (some 29) v').tmps.getD 28 undef) ((a.put (some 29) v').tmps.getD 29 undef) _
        rw[aB (l:=aA) (i:=6) (k:=4) (by decide)];rw[aB (l:=aA) (i:=6) (k:=5) (by decide)];rw[aJ (by omega)];rw[aB (l:=aA) (i:=6) (k:=8) (by decide)];rw[aC (a:=a) (d:=29) (s:=27) (by decide)];rw[aC (a:=a) (d:=29) (s:=28) (by decide)];rw[aS (a:=a) (s:=29) (by rw[hts];show 29<33;decide)];rw[l4,l5,l8];exact⟨j1.trans hup' (λ_ h=>.inl (.inr h)),j2.upd hup' (λe=>by have:=(hur _ e).1;omega),hown',λ_ h=>by cases h⟩
      . have e2:(a.tmps[2]?).getD undef=(.pointer (some ⟨w.heap.size,0,none⟩):Value):=gD (hI.fix 2 (by decide));refine aF ho rfl (aE (v:=.pointer (some ⟨w.heap.size,1,none⟩)) (w':=w') (by simp[execOp,e2,go_sem]) ⟨_,rfl,Or.inr rfl,?_⟩);have hK:=hJ;rw[<-aB (l:=aA) (i:=7) (k:=4) (by decide)]at hK;rw[<-aB (l:=aA) (i:=7) (k:=5) (by decide)]at hK;rw[<-aB (l:=aA) (i:=7) (k:=6) (by decide)]at hK;rw[<-aB (l:=aA) (i:=7) (k:=8) (by decide)]at hK;rw[<-aC (a:=a) (d:=30) (s:=27) (v:=.pointer (some ⟨w.heap.size,1,none⟩)) (by decide)]at hK;rw[<-aC (a:=a) (d:=30) (s:=28) (v:=.pointer (some ⟨w.heap.size,1,none⟩)) (by decide)]at hK;rw[<-aC (a:=a) (d:=30) (s:=29) (v:=.pointer (some ⟨w.heap.size,1,none⟩)) (by decide)]at hK;exact hK
      have e30:(a.tmps[30]?).getD undef=(.pointer (some ⟨w.heap.size,1,none⟩):Value):=gD ((hI.done 7 30 (by simp) rfl (hdep ⟨7,.data⟩ (by simp) rfl)).resolve_left (by decide));have l29:=hdep ⟨6,.data⟩ (by simp) rfl;have l6:=hdep ⟨6,.data⟩ (by simp) rfl;rw[hl]at j2;rw[show aA.getD 6 false=true from l6]at j3;obtain⟨A2,n2,hv29,_⟩:=bC.form j3;have e29:(a.tmps[29]?).getD undef=.slice A2 (aH (bX (xs.take k))++[bB t]).length n2:=(by simpa using hv29);obtain⟨p0,p1,p2⟩:=aL.cells j2;have hzu5:=Hup5.out.size;refine aF ho rfl (bF (w':=w'.setCell ⟨w.heap.size,1,none⟩ (.slice A2 (aH (bX (xs.take k))++[bB t]).length n2)) (by simp[execOp,e30,e29,p1,p2,go_sem]) ⟨_,rfl,Or.inr rfl,?_⟩);show rZ _ _ _ _ _ _ _ ((aA.setIfInBounds 8 true).getD 4 false) ((aA.setIfInBounds 8 true).getD 5 false) ((aA.setIfInBounds 8 true).getD 6 false) ((aA.setIfInBounds 8 true).getD 8 false) (a.tmps.getD 27 undef) (a.tmps.getD 28 undef) (a.tmps.getD 29 undef) _
      rw[aB (l:=aA) (i:=8) (k:=4) (by decide)];rw[aB (l:=aA) (i:=8) (k:=5) (by decide)];rw[aB (l:=aA) (i:=8) (k:=6) (by decide)];rw[aJ (by omega)];rw[show aA.getD 6 false=true from l6];refine⟨j1.trans (aM _) (λ_ h=>.inl (.inl h)),?_,bC.upd j3 (aM _) (λb hb _=>by rcases hb with hb | hb;exact hb.elim;omega),λ_ h=>by cases h⟩;rw[if_pos rfl];have:=aL.put1 j2 (.slice A2 (aH (bX (xs.take k))++[bB t]).length n2);rw[<-hv29]at this ⊢;exact this
     case fin=>
      intro aA x wz hz hall hJ;have hz:aA.size=9:=hz;have hall:∀i,i<9->aA.getD i false=true:=hall;simp only[List.size_toArray,List.length_cons,List.length_nil,Nat.reduceAdd,bI];simp
      rw[hall 4 (by omega),hall 5 (by omega),hall 6 (by omega),hall 8 (by omega)]at hJ;obtain⟨j1,j2,j3,_⟩:=hJ;have J1:=Lh j1;have J2:=Lh j2;have J3:=Lh j3;have hsn:aH (bX (xs.take (k+1)))=aH (bX (xs.take k))++[bB t]:=by
       rw[List.take_succ_eq_append_getElem hlt,dU,dU,List.map_append,bS,bS,List.map_append];simp[HXK.out,Ht.out]
      have Hsn:=Lh hsn;clear j1 j2 j3 hall hsn;go_wp2_with fail;go_roundw
      case rel=>
       refine⟨k+1,by omega,by go_num,_,J2.out,by rw[Hsn.out];exact J3.out,Hup5.out.trans J1.out ?_⟩;rintro j (h | h)
       . exact .inl h
       exact .inr (hur _ h).1
      case measure=>simp[intOf];omega
   obtain rfl:k=xs.length:=by omega
   have hown:=Hown.out;rw[List.take_length]at hown;obtain⟨A2,n2,rfl,_⟩:=hown.form;have hlm:(aH (bX xs)).length=(bX xs).length:=bG _;rw[hlm]at hown Hbk;have Hown2:=Lh hown;have hb3:aL (w.heap.size+1) 87 (.int .i64 0) (.slice none 0 0) wr:=Hb2.out.upd Hup.out (by omega);obtain⟨m0,m1,-⟩:=Hbk.out.cells;obtain⟨n0,n1,n3⟩:=hb3.cells;obtain⟨s1,s2⟩:=hb3.set (.int .i64 (f-48)) (.slice A2 (bX xs).length n2);have Hs1:=Lh s1;have Hs2:=Lh s2;clear hown Hown s1 s2 hb3;go_wp2_with fail;obtain⟨j0,j1,_⟩:=Hs1.out.cells;refine bodyPost_ret (v:=.agg #[.int .i64 (f-48),.slice A2 (bX xs).length n2]) (by simp[results,Try.results93,go_sem,j0,j1]) rfl ?_;have hlz:=bL xs;have hlm2:(bX xs).length=xs.length:=by rw[dU,List.length_map]
   have hown3:=Hown2.out.upd Hs2.out (λb hb _=>by rcases hb with hb | hb;exact hb.elim;omega);refine⟨A2,n2,rfl,(hown3.rd (by rw[hlm];omega)).more (λb hb _=>by rcases hb with hb | hb;exact hb.elim;exact .inr (by omega)),?_⟩;exact(HB0.out.trans (Hup.out.toLow (by omega) (by rintro j rfl;omega))).trans (Hs2.out.toLow (by omega) (by rintro j rfl;omega))
 have hres:gT (.mk f xs)=.mk f (bX xs):=by rw[gT];unfold kW;simp[hneg]
 rw[hres];clear hres;go_enter Try.func93,Try.ntmps93;go_upto_region 5 with fail
 obtain⟨hx1,hx2,hB0,hz0⟩:=aO w (.cells #[.int .i64 f,.slice none 0 0] 87) (.cells #[.int .i64 0,.slice none 0 0] 87);generalize (w.alloc (.cells #[.int .i64 f,.slice none 0 0] 87)).alloc (.cells #[.int .i64 0,.slice none 0 0] 87)=w0 at hx1 hx2 hB0 hz0 ⊢;have hb1:aL w.heap.size 87 (.int .i64 f) (.slice none 0 0) w0:=hx1;have hb2:aL (w.heap.size+1) 87 (.int .i64 0) (.slice none 0 0) w0:=hx2;have HB0:=Lh hB0;have Hb1:=Lh hb1;have Hb2:=Lh hb2;clear hx1 hx2 hb1 hb2 hB0;go_wp2_with fail;go_loopw [19] (λi wr=>∃k:Nat,k<=xs.length/\i=.int .i64 k/\∃u,aL w.heap.size 87 (.int .i64 f) u wr/\bC wr (λ_=>False) w0.heap.size 51 2 u (aH (bX (xs.take k)))/\Upd w0 wr (λj=>j=w.heap.size)) (λi _=>xs.length-(intOf i).toNat)
 case atStart=>exact⟨0,Nat.zero_le _,rfl,_,Hb1.out,bC.nil _ _ _ _ _,Upd.refl _ _⟩
 obtain⟨k,hk,rfl,u,hbk,hown,hup⟩:=hrel;have Hbk:=Lh hbk;have Hown:=Lh hown;have Hup:=Lh hup;have hzr:=hup.size;clear hbk hown hup;by_cases hlt:k<xs.length
 . have hbw:Below w.heap.size w wr:=HB0.out.trans (Hup.out.toLow (by omega) (by rintro j rfl;omega));obtain⟨ab,off,f',ys,A',c',rfl,hxk,hab,k0,k1,hrd⟩:=(Hr.out.low hbw hB).tm_at hlt;have hcb1:=(hbw.cell (p:=⟨bf,0,none⟩) hbf).trans hcb;have HXK:=Lh hxk;have HRD:=Lh hrd;have HBW:=Lh hbw;clear hxk hrd hbw;go_upto_region 8 with fail
   have hbx5:=aD wr (.cells #[.int .i64 f',.slice A' ys.length c'] 51);have hbe5:aL wr.heap.size 51 (.int .i64 f') (.slice A' ys.length c') (wr.alloc (.cells #[.int .i64 f',.slice A' ys.length c'] 51)):=heap_alloc_new wr _;generalize wr.alloc (.cells #[.int .i64 f',.slice A' ys.length c'] 51)=w5 at hbx5 hbe5 ⊢;have hbk5:=Hbk.out.low hbx5;obtain⟨m0,m1,-⟩:=hbe5.cells;obtain⟨n0,n1,-⟩:=hbk5.cells;have hcb5:=(hbx5.cell (p:=⟨bf,0,none⟩) (by show bf<wr.heap.size;omega)).trans hcb1;have HX5:=Lh hbx5;have HK5:=Lh hbk5;have hz5:=hbx5.size;clear hbx5 hbk5 k0 k1;have hown5:=Hown.out.low HX5.out;obtain⟨t,ht⟩:∃t,gT (.mk f' ys)=t:=⟨_,rfl⟩;have Ht:=Lh ht;have Hown5:=Lh hown5;have hur:=Hown.out.lt;have Hup5:Hid (Upd w0 w5 (λj=>j=w.heap.size)):=Lh (Hup.out.trans (Upd.low HX5.out (λ_=>False)) (λ_ h=>h.elim));clear ht hown5 Hown Hbk;refine dC (sp:=λk=>k==4 || k==5 || k==6) (vals:=λx k=>match k with | 0=>(.pointer (some ⟨w.heap.size,1,none⟩):Value) | 1=>(u:Value) | 2=>(.func (.func 93) #[] #[.pointer (some ⟨bf,0,none⟩)]:Value) | 3=>(.agg #[.int .i64 f',.slice A' ys.length c']:Value) | 4=>(x 27:Value) | 5=>(x 28:Value) | 6=>(x 29:Value) | 7=>(.pointer (some ⟨w.heap.size,1,none⟩):Value) | 8=>(undef:Value) | _=>undef) (D:=λk=>match k with | 0=>some 23 | 1=>some 24 | 2=>some 25 | 3=>some 26 | 4=>some 27 | 5=>some 28 | 6=>some 29 | 7=>some 30 | _=>none) (J:=λaA x w'=>rZ w.heap.size w0.heap.size w5 f u t (aH (bX (xs.take k))) (aA.getD 4 false) (aA.getD 5 false) (aA.getD 6 false) (aA.getD 8 false) (x 27) (x 28) (x 29) w') (by kernel_rfl) ?hs ?hd ?hsp ?h0 ?step ?fin
   case hs=>
    intro i o ho;have hi:i<9:=(Array.getElem?_eq_some_iff.1 ho).1;rcases lt9 hi with rfl | rfl | rfl | rfl | rfl | rfl | rfl | rfl | rfl
    all_goals obtain rfl:=Option.some.inj (show some _=some o from ho)
    all_goals exact⟨by simp[Region.binds],rfl,λs hs=>by first | (cases hs;done) | (obtain rfl:=Option.some.inj hs;show _<33;decide)⟩
   case hd=>
    intro k k' s hk hk' h h';have hk:k<9:=hk;have hk':k'<9:=hk';refine dL (D:=[some 23,some 24,some 25,some 26,some 27,some 28,some 29,some 30,none]) (by decide) (k:=k) (k':=k') (s:=s) ?_ ?_
    . rcases lt9 hk with rfl | rfl | rfl | rfl | rfl | rfl | rfl | rfl | rfl
      all_goals exact congrArg some h
    rcases lt9 hk' with rfl | rfl | rfl | rfl | rfl | rfl | rfl | rfl | rfl
    all_goals exact congrArg some h'
   case hsp=>
    intro k s hk hks x;have hk:k<9:=hk;rcases lt9 hk with rfl | rfl | rfl | rfl | rfl | rfl | rfl | rfl | rfl
    all_goals first | rfl | (obtain rfl:=Option.some.inj hks;rfl) | cases hks
   case h0=>
    exact⟨(Upd.refl w5 _).drewN 1,HK5.out.low (Below.refl _ _).drew,Hown5.out.low (Below.refl _ _).drew,λh=>by simp at h⟩
   case step=>
    intro aA a w' i o hz hts hI hJ ho hl hdep;have hz:aA.size=9:=hz;have hi:i<9:=(Array.getElem?_eq_some_iff.1 ho).1;try dsimp only at hJ
    obtain⟨j1,j2,j3,j4⟩:=id hJ;have nF:∀j,j<w.heap.size->¬(j=w.heap.size\/u.ownBlock=some j):=by
     rintro j hj (h | h)
     . omega
     have:=(hur _ h).1;omega
    have nE:¬(wr.heap.size=w.heap.size\/u.ownBlock=some wr.heap.size):=by
     rintro(h | h)
     . omega
     have:=(hur _ h).2;omega
    have o2:=(World.cell?_of_block (a:=⟨bf,0,none⟩) (j1.block bf (by omega) (nF bf hbf))).trans hcb5;have o3:=(World.cell?_of_block (a:=⟨wr.heap.size,0,none⟩) (j1.block wr.heap.size (by have:=(Array.getElem?_eq_some_iff.1 hbe5).1;omega) nE)).trans m0;have o4:=(World.cell?_of_block (a:=⟨wr.heap.size,1,none⟩) (j1.block wr.heap.size (by have:=(Array.getElem?_eq_some_iff.1 hbe5).1;omega) nE)).trans m1;rcases lt9 hi with rfl | rfl | rfl | rfl | rfl | rfl | rfl | rfl | rfl
    all_goals obtain rfl:=Option.some.inj (show some _=some o from ho)
    . have e2:(a.tmps[2]?).getD undef=(.pointer (some ⟨w.heap.size,0,none⟩):Value):=gD (hI.fix 2 (by decide));refine aF ho rfl (aE (v:=.pointer (some ⟨w.heap.size,1,none⟩)) (w':=w') (by simp[execOp,e2,go_sem]) ⟨_,rfl,Or.inr rfl,?_⟩);have hK:=hJ;rw[<-aB (l:=aA) (i:=0) (k:=4) (by decide)]at hK;rw[<-aB (l:=aA) (i:=0) (k:=5) (by decide)]at hK;rw[<-aB (l:=aA) (i:=0) (k:=6) (by decide)]at hK;rw[<-aB (l:=aA) (i:=0) (k:=8) (by decide)]at hK;rw[<-aC (a:=a) (d:=23) (s:=27) (v:=.pointer (some ⟨w.heap.size,1,none⟩)) (by decide)]at hK;rw[<-aC (a:=a) (d:=23) (s:=28) (v:=.pointer (some ⟨w.heap.size,1,none⟩)) (by decide)]at hK;rw[<-aC (a:=a) (d:=23) (s:=29) (v:=.pointer (some ⟨w.heap.size,1,none⟩)) (by decide)]at hK;exact hK
    . have e23:(a.tmps[23]?).getD undef=(.pointer (some ⟨w.heap.size,1,none⟩):Value):=gD ((hI.done 0 23 (by simp) rfl (hdep ⟨0,.data⟩ (by simp) rfl)).resolve_left (by decide));have l8:aA.getD 8 false=false:=by
       cases h:aA.getD 8 false with
       | false=>rfl
       | true=>
        have:=hI.cl 8 _ rfl h ⟨1,.phase⟩ (by simp) rfl;rw[show (⟨1,Ground.phase⟩:Edge).on=1 from rfl,hl]at this;cases this
      have o1:w'.cell? ⟨w.heap.size,1,none⟩=some u:=by
       have:=j2.cells.2.1;rw[l8]at this;exact this
      refine aF ho rfl (aE (v:=u) (w':=w') (by simp[execOp,e23,o1,go_sem]) ⟨_,rfl,Or.inr rfl,?_⟩);have hK:=hJ;rw[<-aB (l:=aA) (i:=1) (k:=4) (by decide)]at hK;rw[<-aB (l:=aA) (i:=1) (k:=5) (by decide)]at hK;rw[<-aB (l:=aA) (i:=1) (k:=6) (by decide)]at hK;rw[<-aB (l:=aA) (i:=1) (k:=8) (by decide)]at hK;rw[<-aC (a:=a) (d:=24) (s:=27) (v:=u) (by decide)]at hK;rw[<-aC (a:=a) (d:=24) (s:=28) (v:=u) (by decide)]at hK;rw[<-aC (a:=a) (d:=24) (s:=29) (v:=u) (by decide)]at hK;exact hK
    . have e1:(a.tmps[1]?).getD undef=(.pointer (some ⟨bf,0,none⟩):Value):=gD (hI.fix 1 (by decide));refine aF ho rfl (aE (v:=.func (.func 93) #[] #[.pointer (some ⟨bf,0,none⟩)]) (w':=w') (by simp[execOp,e1,o2,go_sem]) ⟨_,rfl,Or.inr rfl,?_⟩);have hK:=hJ;rw[<-aB (l:=aA) (i:=2) (k:=4) (by decide)]at hK;rw[<-aB (l:=aA) (i:=2) (k:=5) (by decide)]at hK;rw[<-aB (l:=aA) (i:=2) (k:=6) (by decide)]at hK;rw[<-aB (l:=aA) (i:=2) (k:=8) (by decide)]at hK;rw[<-aC (a:=a) (d:=25) (s:=27) (v:=.func (.func 93) #[] #[.pointer (some ⟨bf,0,none⟩)]) (by decide)]at hK;rw[<-aC (a:=a) (d:=25) (s:=28) (v:=.func (.func 93) #[] #[.pointer (some ⟨bf,0,none⟩)]) (by decide)]at hK;rw[<-aC (a:=a) (d:=25) (s:=29) (v:=.func (.func 93) #[] #[.pointer (some ⟨bf,0,none⟩)]) (by decide)]at hK;exact hK
    . have e6:(a.tmps[6]?).getD undef=(.pointer (some ⟨wr.heap.size,0,none⟩):Value):=gD (hI.fix 6 (by decide));refine aF ho rfl (aE (v:=.agg #[.int .i64 f',.slice A' ys.length c']) (w':=w') (by simp[execOp,e6,o3,o4,go_sem]) ⟨_,rfl,Or.inr rfl,?_⟩);have hK:=hJ;rw[<-aB (l:=aA) (i:=3) (k:=4) (by decide)]at hK;rw[<-aB (l:=aA) (i:=3) (k:=5) (by decide)]at hK;rw[<-aB (l:=aA) (i:=3) (k:=6) (by decide)]at hK;rw[<-aB (l:=aA) (i:=3) (k:=8) (by decide)]at hK;rw[<-aC (a:=a) (d:=26) (s:=27) (v:=.agg #[.int .i64 f',.slice A' ys.length c']) (by decide)]at hK;rw[<-aC (a:=a) (d:=26) (s:=28) (v:=.agg #[.int .i64 f',.slice A' ys.length c']) (by decide)]at hK;rw[<-aC (a:=a) (d:=26) (s:=29) (v:=.agg #[.int .i64 f',.slice A' ys.length c']) (by decide)]at hK;exact hK
    . have e25:(a.tmps[25]?).getD undef=(.func (.func 93) #[] #[.pointer (some ⟨bf,0,none⟩)]:Value):=gD ((hI.done 2 25 (by simp) rfl (hdep ⟨2,.data⟩ (by simp) rfl)).resolve_left (by decide));have e26:(a.tmps[26]?).getD undef=(.agg #[.int .i64 f',.slice A' ys.length c']:Value):=gD ((hI.done 3 26 (by simp) rfl (hdep ⟨3,.data⟩ (by simp) rfl)).resolve_left (by decide));have l5:aA.getD 5 false=false:=by
       cases h:aA.getD 5 false with
       | false=>rfl
       | true=>
        have:=hI.cl 5 _ rfl h ⟨4,.data⟩ (by simp) rfl;rw[show (⟨4,Ground.data⟩:Edge).on=4 from rfl,hl]at this;cases this
      have l6:aA.getD 6 false=false:=by
       cases h:aA.getD 6 false with
       | false=>rfl
       | true=>
        have:=hI.cl 6 _ rfl h ⟨4,.chain⟩ (by simp) rfl;rw[show (⟨4,Ground.chain⟩:Edge).on=4 from rfl,hl]at this;cases this
      have l8:aA.getD 8 false=false:=by
       cases h:aA.getD 8 false with
       | false=>rfl
       | true=>
        have:=hI.cl 8 _ rfl h ⟨4,.phase⟩ (by simp) rfl;rw[show (⟨4,Ground.phase⟩:Edge).on=4 from rfl,hl]at this;cases this
      have hz5':=j1.size;have hRd:Rd w' B (.sl 2 (aH ys)) (.slice A' ys.length c'):=j1.keepRd (HRD.out.low HX5.out (by have:=HBW.out.size;omega)) (by have:=HBW.out.size;omega) (by
       rintro j (rfl | h)
       . exact hB
       have:=(hur _ h).1;omega)
      have hmem:=aZ hlt;rw[HXK.out]at hmem;simp only[aK]at hmem;have hlow2:=nY (by have:=Hlow.out;rw[pD]at this;simp at this;exact this.2) hlt;rw[HXK.out]at hlow2;refine aF ho rfl (aG (f:=93) (args:= #[.agg #[.int .i64 f',.slice A' ys.length c'],.pointer (some ⟨bf,0,none⟩)]) (w':=w') (by simp[execOp,resolve,invoke,e25,e26,go_sem]) (Hih.out f' ys _ bf B w' (by omega) (by omega) hlow2 hRd (by have:=HBW.out.size;omega) (by have:=HBW.out.size;omega) o2) ?_);rw[Ht.out];rintro e w'' ⟨A2,n2,rfl,hrd,hb⟩;refine⟨_,rfl,_,rfl,Or.inl (by decide),?_⟩;show rZ _ _ _ _ _ _ _ ((aA.setIfInBounds 4 true).getD 4 false) ((aA.setIfInBounds 4 true).getD 5 false) ((aA.setIfInBounds 4 true).getD 6 false) ((aA.setIfInBounds 4 true).getD 8 false) ((a.put (some 27) (.agg #[.int .i64 t.fn,.slice A2 t.args.length n2])).tmps.getD 27 undef) ((a.put (some 27) (.agg #[.int .i64 t.fn,.slice A2 t.args.length n2])).tmps.getD 28 undef) ((a.put (some 27) (.agg #[.int .i64 t.fn,.slice A2 t.args.length n2])).tmps.getD 29 undef) _
      rw[aJ (by omega)];rw[aB (l:=aA) (i:=4) (k:=5) (by decide)];rw[aB (l:=aA) (i:=4) (k:=6) (by decide)];rw[aB (l:=aA) (i:=4) (k:=8) (by decide)];rw[aS (a:=a) (s:=27) (by rw[hts];show 27<33;decide)];rw[aC (a:=a) (d:=27) (s:=28) (by decide)];rw[aC (a:=a) (d:=27) (s:=29) (by decide)];rw[l5,l6,l8];rw[l8]at j2;rw[l6]at j3;exact⟨j1.trans (Upd.low hb (λ_=>False)) (λ_ h=>h.elim),j2.low hb,j3.low hb,λ_ _=>⟨A2,n2,rfl,hrd.more λb hb' _=>by rcases hb' with hb' | hb';exact hb'.elim;show w5.heap.size<=b;omega,λh=>by cases h⟩⟩
    . have l27:=hdep ⟨4,.data⟩ (by simp) rfl;have l6:aA.getD 6 false=false:=by
       cases h:aA.getD 6 false with
       | false=>rfl
       | true=>
        have:=hI.cl 6 _ rfl h ⟨5,.data⟩ (by simp) rfl;rw[show (⟨5,Ground.data⟩:Edge).on=5 from rfl,hl]at this;cases this
      have l8:aA.getD 8 false=false:=by
       cases h:aA.getD 8 false with
       | false=>rfl
       | true=>
        have:=hI.cl 8 _ rfl h ⟨5,.phase⟩ (by simp) rfl;rw[show (⟨5,Ground.phase⟩:Edge).on=5 from rfl,hl]at this;cases this
      have l4:=hdep ⟨4,.data⟩ (by simp) rfl;obtain⟨A2,n2,hx27,hrd,_⟩:=j4 l4 l6;have e27:(a.tmps[27]?).getD undef=.agg #[.int .i64 t.fn,.slice A2 t.args.length n2]:=(by simpa using hx27);refine aF ho rfl (aE (v:=.slice (some ⟨w'.heap.size,0,none⟩) 1 1) (w':=w'.alloc (.cells #[.int .i64 t.fn,.slice A2 t.args.length n2] 51)) (by simp[execOp,e27,go_sem]) ⟨_,rfl,Or.inl (by decide),?_⟩);have hbx:=aD w' (.cells #[.int .i64 t.fn,.slice A2 t.args.length n2] 51);show rZ _ _ _ _ _ _ _ ((aA.setIfInBounds 5 true).getD 4 false) ((aA.setIfInBounds 5 true).getD 5 false) ((aA.setIfInBounds 5 true).getD 6 false) ((aA.setIfInBounds 5 true).getD 8 false) ((a.put (some 28) (.slice (some ⟨w'.heap.size,0,none⟩) 1 1)).tmps.getD 27 undef) ((a.put (some 28) (.slice (some ⟨w'.heap.size,0,none⟩) 1 1)).tmps.getD 28 undef) ((a.put (some 28) (.slice (some ⟨w'.heap.size,0,none⟩) 1 1)).tmps.getD 29 undef) _
      rw[aB (l:=aA) (i:=5) (k:=4) (by decide)];rw[aJ (by omega)];rw[aB (l:=aA) (i:=5) (k:=6) (by decide)];rw[aB (l:=aA) (i:=5) (k:=8) (by decide)];rw[aC (a:=a) (d:=28) (s:=27) (by decide)];rw[aS (a:=a) (s:=28) (by rw[hts];show 28<33;decide)];rw[aC (a:=a) (d:=28) (s:=29) (by decide)];rw[l4,l6,l8];rw[l8]at j2;rw[l6]at j3;exact⟨j1.alloc _,j2.low hbx,j3.low hbx,λ_ _=>⟨A2,n2,hx27,hrd.low hbx,λ_=>⟨_,rfl,heap_alloc_new w' _⟩⟩⟩
    . have e24:(a.tmps[24]?).getD undef=(u:Value):=gD ((hI.done 1 24 (by simp) rfl (hdep ⟨1,.data⟩ (by simp) rfl)).resolve_left (by decide));have l28:=hdep ⟨5,.data⟩ (by simp) rfl;have l8:aA.getD 8 false=false:=by
       cases h:aA.getD 8 false with
       | false=>rfl
       | true=>
        have:=hI.cl 8 _ rfl h ⟨6,.phase⟩ (by simp) rfl;rw[show (⟨6,Ground.phase⟩:Edge).on=6 from rfl,hl]at this;cases this
      have l5:=hdep ⟨5,.data⟩ (by simp) rfl;have l4:=hdep ⟨4,.chain⟩ (by simp) rfl;obtain⟨A2,n2,hx27,hrd,hb⟩:=j4 l4 hl;obtain⟨g,hx28,hg⟩:=hb l5;have e28:(a.tmps[28]?).getD undef=.slice (some ⟨g,0,none⟩) 1 1:=(by simpa using hx28);rw[hl]at j3;rw[l8]at j2;have hlk:(aH (bX (xs.take k))).length=k:=(by rw[bG,dU,List.length_map,List.length_take];omega);have hlz:=bL xs;have hz5':=j1.size;have hwz:=HBW.out.size;have hzu5:=Hup5.out.size;refine nO ho rfl (cK w' rfl (.tmp 24) (.tmp 28) _ rfl oX (M:=λ_=>False) (base:=w0.heap.size) (v:=u) (trs:=aH (bX (xs.take k))) (by simpa [go_sem]using e24) j3 (g:=g) (by simpa [go_sem]using e28) hg rfl (by intro y hy;simp at hy;rcases hy with rfl | rfl <;> rfl) (by rw[hlk];omega) (by rw[hlk];unfold maxLen;omega) (by omega) (bB t) (by rcases t with⟨tf,ta⟩;rfl) ?_ ?_)
      . intro j h h';have hj2:j<2:=h';rcases t with⟨tf,ta⟩
        rcases(by omega:j=0\/j=1)with rfl | rfl
        . exact .leaf _
        exact hrd.more λb hb _=>⟨.inr (by have:w5.heap.size<=b:=hb;omega),λe=>by
         have:=(hur _ e).2;have:w5.heap.size<=b:=hb;omega⟩
      intro v' w'' hown' hup' hat';refine⟨v',rfl,Or.inl (by decide),?_⟩;show rZ _ _ _ _ _ _ _ ((aA.setIfInBounds 6 true).getD 4 false) ((aA.setIfInBounds 6 true).getD 5 false) ((aA.setIfInBounds 6 true).getD 6 false) ((aA.setIfInBounds 6 true).getD 8 false) ((a.put (some 29) v').tmps.getD 27 undef) ((a.put (some 29) v').tmps.getD 28 undef) ((a.put (some 29) v').tmps.getD 29 undef) _
      rw[aB (l:=aA) (i:=6) (k:=4) (by decide)];rw[aB (l:=aA) (i:=6) (k:=5) (by decide)];rw[aJ (by omega)];rw[aB (l:=aA) (i:=6) (k:=8) (by decide)];rw[aC (a:=a) (d:=29) (s:=27) (by decide)];rw[aC (a:=a) (d:=29) (s:=28) (by decide)];rw[aS (a:=a) (s:=29) (by rw[hts];show 29<33;decide)];rw[l4,l5,l8];exact⟨j1.trans hup' (λ_ h=>.inl (.inr h)),j2.upd hup' (λe=>by have:=(hur _ e).1;omega),hown',λ_ h=>by cases h⟩
    . have e2:(a.tmps[2]?).getD undef=(.pointer (some ⟨w.heap.size,0,none⟩):Value):=gD (hI.fix 2 (by decide));refine aF ho rfl (aE (v:=.pointer (some ⟨w.heap.size,1,none⟩)) (w':=w') (by simp[execOp,e2,go_sem]) ⟨_,rfl,Or.inr rfl,?_⟩);have hK:=hJ;rw[<-aB (l:=aA) (i:=7) (k:=4) (by decide)]at hK;rw[<-aB (l:=aA) (i:=7) (k:=5) (by decide)]at hK;rw[<-aB (l:=aA) (i:=7) (k:=6) (by decide)]at hK;rw[<-aB (l:=aA) (i:=7) (k:=8) (by decide)]at hK;rw[<-aC (a:=a) (d:=30) (s:=27) (v:=.pointer (some ⟨w.heap.size,1,none⟩)) (by decide)]at hK;rw[<-aC (a:=a) (d:=30) (s:=28) (v:=.pointer (some ⟨w.heap.size,1,none⟩)) (by decide)]at hK;rw[<-aC (a:=a) (d:=30) (s:=29) (v:=.pointer (some ⟨w.heap.size,1,none⟩)) (by decide)]at hK;exact hK
    have e30:(a.tmps[30]?).getD undef=(.pointer (some ⟨w.heap.size,1,none⟩):Value):=gD ((hI.done 7 30 (by simp) rfl (hdep ⟨7,.data⟩ (by simp) rfl)).resolve_left (by decide));have l29:=hdep ⟨6,.data⟩ (by simp) rfl;have l6:=hdep ⟨6,.data⟩ (by simp) rfl;rw[hl]at j2;rw[show aA.getD 6 false=true from l6]at j3;obtain⟨A2,n2,hv29,_⟩:=bC.form j3;have e29:(a.tmps[29]?).getD undef=.slice A2 (aH (bX (xs.take k))++[bB t]).length n2:=(by simpa using hv29);obtain⟨p0,p1,p2⟩:=aL.cells j2;have hzu5:=Hup5.out.size;refine aF ho rfl (bF (w':=w'.setCell ⟨w.heap.size,1,none⟩ (.slice A2 (aH (bX (xs.take k))++[bB t]).length n2)) (by simp[execOp,e30,e29,p1,p2,go_sem]) ⟨_,rfl,Or.inr rfl,?_⟩);show rZ _ _ _ _ _ _ _ ((aA.setIfInBounds 8 true).getD 4 false) ((aA.setIfInBounds 8 true).getD 5 false) ((aA.setIfInBounds 8 true).getD 6 false) ((aA.setIfInBounds 8 true).getD 8 false) (a.tmps.getD 27 undef) (a.tmps.getD 28 undef) (a.tmps.getD 29 undef) _
    rw[aB (l:=aA) (i:=8) (k:=4) (by decide)];rw[aB (l:=aA) (i:=8) (k:=5) (by decide)];rw[aB (l:=aA) (i:=8) (k:=6) (by decide)];rw[aJ (by omega)];rw[show aA.getD 6 false=true from l6];refine⟨j1.trans (aM _) (λ_ h=>.inl (.inl h)),?_,bC.upd j3 (aM _) (λb hb _=>by rcases hb with hb | hb;exact hb.elim;omega),λ_ h=>by cases h⟩;rw[if_pos rfl];have:=aL.put1 j2 (.slice A2 (aH (bX (xs.take k))++[bB t]).length n2);rw[<-hv29]at this ⊢;exact this
   case fin=>
    intro aA x wz hz hall hJ;have hz:aA.size=9:=hz;have hall:∀i,i<9->aA.getD i false=true:=hall;simp only[List.size_toArray,List.length_cons,List.length_nil,Nat.reduceAdd,bI];simp
    rw[hall 4 (by omega),hall 5 (by omega),hall 6 (by omega),hall 8 (by omega)]at hJ;obtain⟨j1,j2,j3,_⟩:=hJ;have J1:=Lh j1;have J2:=Lh j2;have J3:=Lh j3;have hsn:aH (bX (xs.take (k+1)))=aH (bX (xs.take k))++[bB t]:=by
     rw[List.take_succ_eq_append_getElem hlt,dU,dU,List.map_append,bS,bS,List.map_append];simp[HXK.out,Ht.out]
    have Hsn:=Lh hsn;clear j1 j2 j3 hall hsn;go_wp2_with fail;go_roundw
    case rel=>
     refine⟨k+1,by omega,by go_num,_,J2.out,by rw[Hsn.out];exact J3.out,Hup5.out.trans J1.out ?_⟩;rintro j (h | h)
     . exact .inl h
     exact .inr (hur _ h).1
    case measure=>simp[intOf];omega
 obtain rfl:k=xs.length:=by omega
 have hown:=Hown.out;rw[List.take_length]at hown;obtain⟨A2,n2,rfl,_⟩:=hown.form;have hlm:(aH (bX xs)).length=(bX xs).length:=bG _;rw[hlm]at hown Hbk;have Hown2:=Lh hown;have hb3:aL (w.heap.size+1) 87 (.int .i64 0) (.slice none 0 0) wr:=Hb2.out.upd Hup.out (by omega);obtain⟨m0,m1,-⟩:=Hbk.out.cells;obtain⟨n0,n1,n3⟩:=hb3.cells;obtain⟨s1,s2⟩:=hb3.set (.int .i64 f) (.slice A2 (bX xs).length n2);have Hs1:=Lh s1;have Hs2:=Lh s2;clear hown Hown s1 s2 hb3;go_wp2_with fail;obtain⟨j0,j1,_⟩:=Hs1.out.cells;refine bodyPost_ret (v:=.agg #[.int .i64 f,.slice A2 (bX xs).length n2]) (by simp[results,Try.results93,go_sem,j0,j1]) rfl ?_;have hlz:=bL xs;have hlm2:(bX xs).length=xs.length:=by rw[dU,List.length_map]
 have hown3:=Hown2.out.upd Hs2.out (λb hb _=>by rcases hb with hb | hb;exact hb.elim;omega);refine⟨A2,n2,rfl,(hown3.rd (by rw[hlm];omega)).more (λb hb _=>by rcases hb with hb | hb;exact hb.elim;exact .inr (by omega)),?_⟩;exact(HB0.out.trans (Hup.out.toLow (by omega) (by rintro j rfl;omega))).trans (Hs2.out.toLow (by omega) (by rintro j rfl;omega))
section
variable {P:Program} {ops:Array Oper} {Q:Exit->Act->World->Prop} {S:Array Bool->World->Prop}
def mD (ops:Array Oper)(aA:Array Bool):Prop:=
 ∀k o,ops[k]? =some o->aA.getD k true=true->∀e∈o.after,Region.binds .any e=true->aA.getD e.on false=true
def kJ (ops:Array Oper)(aA:Array Bool):Bool:=
 (List.range ops.size).all λk=> !aA.getD k true || ((ops[k]?).map (·.after.all λe=> !Region.binds .any e || aA.getD e.on false)).getD true
theorem uP {aA:Array Bool} (h:kJ ops aA=true):mD ops aA:=by
 intro k o ho hl e he hb;unfold kJ at h;rw[List.all_eq_true]at h;have h1:=h k (List.mem_range.2 (Array.getElem?_eq_some_iff.1 ho).1);rw[hl,ho]at h1;simp only[Bool.not_true,Bool.false_or,Option.map_some,Option.getD_some,Array.all_eq_true_iff_forall_mem]at h1;have h2:=h1 e he;rw[hb]at h2;simpa using h2
theorem uQ {aA:Array Bool} {j:Nat} (hc:mD ops aA)(hj:j∈Region.ready .any ops aA):mD ops (aA.setIfInBounds j true):=by
 intro k o ho hl e he hb;by_cases hkj:j=k
 . subst hkj;obtain⟨_,o',ho',hall⟩:=mem_ready.1 hj;rw[ho]at ho';injection ho' with ho'
   subst ho';exact getD_set_true (hall e he hb)
 rw[getD_set_ne true hkj]at hl;exact getD_set_true (hc k o ho hl e he hb)
def mF (ops:Array Oper)(i:Nat)(L:Array Bool):Prop:=∀j oj,ops[j]? =some oj->(∃e∈oj.after,Region.binds .any e=true/\e.on=i)->L.getD j true=false
def aW (P:Program)(ops:Array Oper)(Q:Exit->Act->World->Prop)(S:Array Bool->World->Prop):Nat->Array Bool->Act->World->Prop
 | 0,aA,a,w=>Region.ready .any ops aA=[]/\Q .normal a w
 | fuel+1,aA,a,w=>
  (Region.ready .any ops aA=[]->Q .normal a w)/\
  ∀i∈Region.ready .any ops aA,wpOp P ops Q i (λa' w'=>S (aA.setIfInBounds i true) w'/\aW P ops Q S fuel (aA.setIfInBounds i true) a' w') a w
theorem rX:∀(fuel:Nat) (aA:Array Bool) (a:Act) (w:World),aW P ops Q S fuel aA a w->wpAny P .any ops Q fuel aA a w
 | 0,_,_,_,h=>h
 | fuel+1,_,_,_,h=>⟨h.1,λi hi=>wpOp_mono (λa' w' h'=>rX fuel _ a' w' h'.2) (h.2 i hi)⟩
def yC (ops:Array Oper)(S:Array Bool->World->Prop)(i:Nat)(w:World):Prop:=∃L,mF ops i L/\S L w
theorem vQ {i:Nat} {oi:Oper} {v:Value} (hi:ops[i]? =some oi)(hsel:∀(j:Nat) (o:Oper) cs b,ops[j]? =some o->o.op≠.select cs b)
 (hQ:∀c a w,Q (.panic c) (a.put oi.dst v) w->Q (.panic c) a w) (hins:∀L w,S (L.setIfInBounds i true) w↔S L w):
 ∀(fuel:Nat) (aA:Array Bool) (a:Act) (w:World),mD ops aA->
  (∀j oj,ops[j]? =some oj->j≠i->aA.getD j true=false->(∀e∈oj.after,Region.binds .any e=true->e.on≠i)->oi.apart ops oj=true)->
  i∈Region.ready .any ops aA->YieldsIf P ops (yC ops S i) oi v a->S aA w->
  aW P ops Q S fuel (aA.setIfInBounds i true) (a.put oi.dst v) w->aW P ops Q S (fuel+1) aA a w:=by
 intro fuel;have hB:∀aA w,mD ops aA->i∈Region.ready .any ops aA->S aA w->yC ops S i w:=by
  intro aA w hc hr hS;refine⟨aA,λj oj hj hw=>?_,hS⟩;obtain⟨e,he,hb,hon⟩:=hw;cases hlj:aA.getD j true with
  | false=>rfl
  | true=>
   have h1:=hc j oj hj hlj e he hb;have h0:=(mem_ready.1 hr).1;rw[hon]at h1;rcases Nat.lt_or_ge i aA.size with h' | h'
   . simp[h']at h0 h1;rw[h0]at h1;cases h1
   simp[Array.getElem?_eq_none h']at h1
 induction fuel with
 | zero=>
  intro aA a w hc _ hr hy hS H;refine⟨λh=>(by rw[h]at hr;cases hr),λj hj=>?_⟩;by_cases hji:j=i
  . subst hji;exact hy.wpOp hi (hB aA w hc hr hS) ⟨(hins _ _).2 hS,H⟩
  have:=ready_mono hj hji;rw[H.1]at this;cases this
 | succ fuel ih=>
  intro aA a w hc hfree hr hy hS H;refine⟨λh=>(by rw[h]at hr;cases hr),λj hj=>?_⟩;by_cases hji:j=i
  . subst hji;exact hy.wpOp hi (hB aA w hc hr hS) ⟨(hins _ _).2 hS,H⟩
  have h1:=H.2 j (ready_mono hj hji);obtain⟨hjun,oj,hoj,hall⟩:=mem_ready.1 hj;have hnot:∀e∈oj.after,Region.binds .any e=true->e.on≠i:=λe he hb heq=>by
   have h1:=hall e he hb;have h0:=(mem_ready.1 hr).1;rw[heq]at h1;rcases Nat.lt_or_ge i aA.size with h' | h'
   . simp[h']at h0 h1;rw[h0]at h1;cases h1
   simp[Array.getElem?_eq_none h']at h1
  have h2:=wpOp_putIf hoj (hfree j oj hoj hji hjun hnot) (λcs b=>hsel i oi cs b hi) (λcs b=>hsel j oj cs b hoj) hQ hy h1;have hfree':∀k ok,ops[k]? =some ok->k≠i->(aA.setIfInBounds j true).getD k true=false->
   (∀e∈ok.after,Region.binds .any e=true->e.on≠i)->oi.apart ops ok=true:=λk ok hk hki hun hno=>by
   refine hfree k ok hk hki ?_ hno;by_cases hjk:j=k
   . subst hjk;exact hjun
   rw[getD_set_ne true hjk]at hun;exact hun
  refine wpOp_mono (λa' w' h3=>?_) h2;obtain⟨hy',hS',H'⟩:=h3;rw[Array.setIfInBounds_comm _ _ (Ne.symm hji)]at hS' H';have hSj:=(hins _ _).1 hS';exact⟨hSj,ih (aA.setIfInBounds j true) a' w' (uQ hc hj) hfree' (ready_mono hr (Ne.symm hji)) hy' hSj H'⟩
theorem kH (i:Nat) {oi:Oper} {v:Value} {fuel:Nat} {aA listed':Array Bool} {a a':Act} {w:World} (hi:ops[i]? =some oi)(hl:aA.setIfInBounds i true=listed')
 (hb:(Region.noSelect ops&&Region.free .any ops aA i&&(Region.ready .any ops aA).contains i&&kJ ops aA)=true)
 (hQ:∀c a w,Q (.panic c) (a.put oi.dst v) w->Q (.panic c) a w) (hins:∀L w,S (L.setIfInBounds i true) w↔S L w) (ha:a.put oi.dst v=a') (hS:S aA w)
 (hy:YieldsIf P ops (yC ops S i) oi v a)
 (h:S listed' w->aW P ops Q S fuel listed' a' w):aW P ops Q S (fuel+1) aA a w:=by
 simp only[Bool.and_eq_true]at hb;obtain⟨⟨⟨h1,h2⟩,h3⟩,h4⟩:=hb;subst hl;subst ha;exact vQ hi (Region.noSelect_spec h1) hQ hins fuel aA a w (uP h4) (Region.free_spec hi h2) (by simpa using h3) hy hS (h ((hins _ _).2 hS))
theorem zP (i:Nat) {o o2:Oper} {fuel:Nat} {aA listed':Array Bool} {a:Act} {w:World} (hr:Region.ready .any ops aA=[i])(ho:ops[i]? =some o)(hl:aA.setIfInBounds i true=listed')
 (h2:{o with guard:=none}=o2) (hg:Region.wanted o (yielded ops a.tmps)=true) (h:wpList P ops (rL (λa' w'=>S listed' w'/\aW P ops Q S fuel listed' a' w') Q) [o2] a w):aW P ops Q S (fuel+1) aA a w:=by
 subst h2;subst hl;refine⟨λh0=>(by rw[hr]at h0;cases h0),λj hj=>?_⟩;rw[hr,List.mem_singleton]at hj;subst hj;unfold wpOp;simp only[ho,hg,if_true];have hL:LetsOut (rL (λa' w'=>S (aA.setIfInBounds j true) w'/\aW P ops Q S fuel (aA.setIfInBounds j true) a' w') Q)->LetsOut Q:=id;unfold wpList at h;simp only[Region.wanted,if_true]at h;rcases h with h | ⟨h1,h2⟩
 . exact .inl (yA (λ_ _ _ h=>h) hL h)
 exact .inr ⟨h1,hL h2⟩
theorem aF6 (i:Nat) {o:Oper} {fuel:Nat} {aA listed':Array Bool} {a:Act} {w:World} (hr:Region.ready .any ops aA=[i])(ho:ops[i]? =some o)(hl:aA.setIfInBounds i true=listed')
 (hg:Region.wanted o (yielded ops a.tmps)=true) (h:o.wp P a w (λa' w'=>S listed' w'/\aW P ops Q S fuel listed' a' w') Q):aW P ops Q S (fuel+1) aA a w:=by
 subst hl;refine⟨λh0=>(by rw[hr]at h0;cases h0),λj hj=>?_⟩;rw[hr,List.mem_singleton]at hj;subst hj;unfold wpOp;simp only[ho,hg,if_true];exact .inl h
theorem aF5 {A:Prop} {fuel:Nat} {L:Array Bool} {a a':Act} {w:World} (ha:a=a')(hS:A)(h:A->aW P ops Q S fuel L a' w):A/\aW P ops Q S fuel L a w:=by
 subst ha;exact⟨hS,h hS⟩
theorem zO {A:World->Prop} {fuel:Nat} {L:Array Bool} {a a':Act} {w:World} (ha:a=a')(hS:A w)(h:A w->aW P ops Q S fuel L a' w):
 wpList P ops (rL (λa' w'=>A w'/\aW P ops Q S fuel L a' w') Q) [] a w:=by
 subst ha;exact⟨hS,h hS⟩
theorem mF.flag {i:Nat} {L:Array Bool} (h:mF ops i L)(j:Nat)(hw:((ops[j]?).map (·.after.toList.any λe=>Region.binds .any e&&e.on==i)).getD false=true):L.getD j false=false:=by
 cases ho:ops[j]? with
 | none=>rw[ho]at hw;cases hw
 | some oj=>
  rw[ho]at hw;simp only[Option.map_some,Option.getD_some,List.any_eq_true,Array.mem_toList_iff]at hw;obtain⟨e,he,h1⟩:=hw;simp only[Bool.and_eq_true,beq_iff_eq]at h1;have h2:=h j oj ho ⟨e,he,h1.1,h1.2⟩;rcases Nat.lt_or_ge j L.size with h' | h'
  . simp[h']at h2 ⊢;exact h2
  simp[Array.getElem?_eq_none h']at h2
theorem zN {rs:List Nat} {fuel:Nat} {aA:Array Bool} {a:Act} {w:World} (hr:Region.ready .any ops aA=rs)(hne:rs≠[])
 (h:∀i∈rs,wpOp P ops Q i (λa' w'=>S (aA.setIfInBounds i true) w'/\aW P ops Q S fuel (aA.setIfInBounds i true) a' w') a w):aW P ops Q S (fuel+1) aA a w:=
 ⟨λh0=>absurd (hr ▸ h0) hne,hr ▸ h⟩
theorem lI (i j:Nat) {o1 o2:Oper} {fuel:Nat} {L L':Array Bool} {a:Act} {w wA wAB wB wBA:World} (hr:Region.ready .any ops L=[i,j])(hr1:Region.ready .any ops (L.setIfInBounds i true)=[j])(hr2:Region.ready .any ops (L.setIfInBounds j true)=[i])
 (hl:(L.setIfInBounds i true).setIfInBounds j true=L') (hl2:(L.setIfInBounds j true).setIfInBounds i true=L') (h1:ops[i]? =some o1) (h2:ops[j]? =some o2) (g1:Region.wanted o1 (yielded ops a.tmps)=true) (g2:Region.wanted o2 (yielded ops a.tmps)=true)
 (d1:o1.dst=none) (d2:o2.dst=none) (r1:(execOp a.eval o1).run P w=.ok .skip wA) (r12:(execOp a.eval o2).run P wA=.ok .skip wAB) (r2:(execOp a.eval o2).run P w=.ok .skip wB) (r21:(execOp a.eval o1).run P wB=.ok .skip wBA)
 (heq:wBA=wAB) (s1:S (L.setIfInBounds i true) wA) (s2:S (L.setIfInBounds j true) wB) (s12:S L' wAB) (h:S L' wAB->aW P ops Q S fuel L' a wAB):aW P ops Q S (fuel+2) L a w:=by
 subst heq;have hp:∀o:Oper,o.dst=none->a.put o.dst undef=a:=λo e=>by rw[e];rfl
 refine⟨λh0=>(by rw[hr]at h0;cases h0),λk hk=>?_⟩;rw[hr]at hk;simp only[List.mem_cons,List.not_mem_nil,or_false]at hk;rcases hk with rfl | rfl
 . unfold wpOp;simp only[h1,g1,if_true];refine .inl ?_;unfold Oper.wp;rw[r1];show S _ wA/\aW P ops Q S (fuel+1) _ (a.put o1.dst undef) wA
   rw[hp o1 d1];refine⟨s1,λh0=>(by rw[hr1]at h0;cases h0),λk' hk'=>?_⟩;rw[hr1,List.mem_singleton]at hk';subst hk';unfold wpOp;simp only[h2,g2,if_true];refine .inl ?_;unfold Oper.wp;rw[r12];show S _ wBA/\aW P ops Q S fuel _ (a.put o2.dst undef) wBA
   rw[hp o2 d2,hl];exact⟨s12,h s12⟩
 unfold wpOp;simp only[h2,g2,if_true];refine .inl ?_;unfold Oper.wp;rw[r2];show S _ wB/\aW P ops Q S (fuel+1) _ (a.put o2.dst undef) wB
 rw[hp o2 d2];refine⟨s2,λh0=>(by rw[hr2]at h0;cases h0),λk' hk'=>?_⟩;rw[hr2,List.mem_singleton]at hk';subst hk';unfold wpOp;simp only[h1,g1,if_true];refine .inl ?_;unfold Oper.wp;rw[r21];show S _ wBA/\aW P ops Q S fuel _ (a.put o1.dst undef) wBA
 rw[hp o1 d1,hl2];exact⟨s12,h s12⟩
theorem lH (i j:Nat) {o1 o2:Oper} {d1 d2:Tmp} {fuel:Nat} {L L':Array Bool} {a:Act} {w:World} {ob:Obj} (hr:Region.ready .any ops L=[i,j])(hr1:Region.ready .any ops (L.setIfInBounds i true)=[j])(hr2:Region.ready .any ops (L.setIfInBounds j true)=[i])
 (hl:(L.setIfInBounds i true).setIfInBounds j true=L') (hl2:(L.setIfInBounds j true).setIfInBounds i true=L') (h1:ops[i]? =some o1) (h2:ops[j]? =some o2) (g1:o1.guard=none) (g2:o2.guard=none)
 (e1:o1.dst=some d1) (e2:o2.dst=some d2) (hne:d1≠d2) (r1:∀(a:Act) w,(execOp a.eval o1).run P w=.ok (.value (.pointer (some ⟨w.heap.size,0,none⟩))) (w.alloc ob)) (r2:∀(a:Act) w,(execOp a.eval o2).run P w=.ok (.value (.pointer (some ⟨w.heap.size,0,none⟩))) (w.alloc ob))
 (s1:S (L.setIfInBounds i true) (w.alloc ob)) (s2:S (L.setIfInBounds j true) (w.alloc ob)) (s12:S L' ((w.alloc ob).alloc ob))
 (h:∀b1 b2,(b1=w.heap.size/\b2=w.heap.size+1\/b2=w.heap.size/\b1=w.heap.size+1)->aW P ops Q S fuel L' ((a.put (some d1) (.pointer (some ⟨b1,0,none⟩))).put (some d2) (.pointer (some ⟨b2,0,none⟩))) ((w.alloc ob).alloc ob)):
 aW P ops Q S (fuel+2) L a w:=by
 refine⟨λh0=>(by rw[hr]at h0;cases h0),λk hk=>?_⟩;rw[hr]at hk;simp only[List.mem_cons,List.not_mem_nil,or_false]at hk;have hz:(w.alloc ob).heap.size=w.heap.size+1:=by simp
 rcases hk with rfl | rfl
 . unfold wpOp;simp only[h1,Region.wanted,g1,if_true];refine .inl ?_;unfold Oper.wp;rw[r1];show S _ _/\aW P ops Q S (fuel+1) _ (a.put o1.dst _) _
   rw[e1];refine⟨s1,λh0=>(by rw[hr1]at h0;cases h0),λk' hk'=>?_⟩;rw[hr1,List.mem_singleton]at hk';subst hk';unfold wpOp;simp only[h2,Region.wanted,g2,if_true];refine .inl ?_;unfold Oper.wp;rw[r2,hz];show S _ _/\aW P ops Q S fuel _ (Act.put _ o2.dst _) _
   rw[e2,hl];exact⟨s12,h _ _ (.inl ⟨rfl,rfl⟩)⟩
 unfold wpOp;simp only[h2,Region.wanted,g2,if_true];refine .inl ?_;unfold Oper.wp;rw[r2];show S _ _/\aW P ops Q S (fuel+1) _ (a.put o2.dst _) _
 rw[e2];refine⟨s2,λh0=>(by rw[hr2]at h0;cases h0),λk' hk'=>?_⟩;rw[hr2,List.mem_singleton]at hk';subst hk';unfold wpOp;simp only[h1,Region.wanted,g1,if_true];refine .inl ?_;unfold Oper.wp;rw[r1,hz];show S _ _/\aW P ops Q S fuel _ (Act.put _ o1.dst _) _
 rw[e1,hl2,Act.put_comm _ _ _ (by intro d e;injection e with e;subst e;simpa using λe=>hne e)];exact⟨s12,h _ _ (.inr ⟨rfl,rfl⟩)⟩
theorem xZ {fuel:Nat} {aA:Array Bool} {a:Act} {w:World} (hr:Region.ready .any ops aA=[])(h:Q .normal a w):aW P ops Q S fuel aA a w:=by
 cases fuel with
 | zero=>exact⟨hr,h⟩
 | succ n=>exact⟨λ_=>h,by rw[hr];simp⟩
theorem yB (S:Array Bool->World->Prop) {id n:Nat} {l0:Array Bool} {a:Act} {w:World} (hm:P.follows .mixedOrders=true)(hn:ops.size=n)(hl:Array.replicate ops.size false=l0)
 (h:∀wd:World,wd.heap=w.heap->Below w.heap.size w wd->aW P ops Q S n l0 a wd):(Code.region id ops true).wp P Q a w:=by
 subst hn;subst hl;exact wp_region_any hm (rX _ _ _ _ (h _ rfl ⟨rfl,rfl,rfl,Nat.le_refl _,λ_ _=>rfl⟩))
end
theorem nrm:(∀(t:Array Value) (df) (d:Nat) (v:Value),Act.put ⟨t,df⟩ (some d) v=⟨t.setIfInBounds d v,df⟩)/\(∀(a:Act) (v:Value),a.put none v=a)/\(∀(l:List Value) (i:Nat) (v:Value),l.toArray.setIfInBounds i v=(l.set i v).toArray)/\
 (∀(l:List Value) (x v:Value),(x::l).set 0 v=v::l)/\(∀(l:List Value) (x v:Value) (i:Nat),(x::l).set (i+1) v=x::l.set i v)/\
 (∀(l:List Oper) (i:Nat),l.toArray[i]? =l[i]?)/\(∀(l:List Oper) (x:Oper),(x::l)[0]? =some x)/\(∀(l:List Oper) (x:Oper) (i:Nat),(x::l)[i+1]? =l[i]?):=
 ⟨λ_ _ _ _=>rfl,λ_ _=>rfl,λ_ _ _=>by simp,λ_ _ _=>rfl,λ_ _ _ _=>rfl,λ_ _=>by simp,λ_ _=>rfl,λ_ _ _=>by simp⟩
section
variable {P:Program} {ops:Array Oper} {Q:Exit->Act->World->Prop} {S:Array Bool->World->Prop}
theorem tk (i:Nat)(v:Value) {oi:Oper} {fuel:Nat} {aA:Array Bool} {a a':Act} {w:World} (hS:S aA w)(hy:∀w' L,mF ops i L->S L w'->(execOp a.eval oi).run P w'=.ok (.value v) w')
 (h:S (aA.setIfInBounds i true) w->aW P ops Q S fuel (aA.setIfInBounds i true) a' w)
 (hi:ops[i]? =some oi:=by simp only[nrm];rfl)
 (hb:(Region.noSelect ops&&Region.free .any ops aA i&&(Region.ready .any ops aA).contains i&&kJ ops aA)=true:=by kernel_rfl)
 (hQ:∀c a w,Q (.panic c) (a.put oi.dst v) w->Q (.panic c) a w:=by exact λ_ _ _ h=>h) (hins:∀L w,S (L.setIfInBounds i true) w↔S L w:=by exact λ_ _=>Iff.rfl) (ha:a.put oi.dst v=a':=by simp only[nrm];rfl)
 (hg:Region.wanted oi (yielded ops a.tmps)=true:=by rfl):aW P ops Q S (fuel+1) aA a w:=
 kH i hi rfl hb hQ hins ha hS (.inl ⟨hg,λw' hB=>by obtain⟨L,hn,hw⟩:=hB;exact hy w' L hn hw⟩) h
theorem sk (i:Nat) {oi:Oper} {fuel:Nat} {aA:Array Bool} {a a':Act} {w:World} (hS:S aA w)
 (h:S (aA.setIfInBounds i true) w->aW P ops Q S fuel (aA.setIfInBounds i true) a' w)
 (hi:ops[i]? =some oi:=by simp only[nrm];rfl)
 (hb:(Region.noSelect ops&&Region.free .any ops aA i&&(Region.ready .any ops aA).contains i&&kJ ops aA)=true:=by kernel_rfl)
 (hQ:∀c a w,Q (.panic c) (a.put oi.dst undef) w->Q (.panic c) a w:=by exact λ_ _ _ h=>h) (hins:∀L w,S (L.setIfInBounds i true) w↔S L w:=by exact λ_ _=>Iff.rfl) (ha:a.put oi.dst undef=a':=by simp only[nrm];rfl)
 (hg:Region.wanted oi (yielded ops a.tmps)=false:=by rfl):aW P ops Q S (fuel+1) aA a w:=
 kH i hi rfl hb hQ hins ha hS (.inr ⟨hg,rfl⟩) h
theorem so (i:Nat) {o:Oper} {fuel:Nat} {aA:Array Bool} {a:Act} {w:World} (h:o.wp P a w (λa' w'=>S (aA.setIfInBounds i true) w'/\aW P ops Q S fuel (aA.setIfInBounds i true) a' w') Q)
 (hr:Region.ready .any ops aA=[i]:=by kernel_rfl) (ho:ops[i]? =some o:=by simp only[nrm];rfl) (hg:Region.wanted o (yielded ops a.tmps)=true:=by rfl):aW P ops Q S (fuel+1) aA a w:=
 aF6 i hr ho rfl hg h
theorem sl (i:Nat) {o:Oper} {fuel:Nat} {aA:Array Bool} {a:Act} {w:World} (h:wpList P ops (rL (λa' w'=>S (aA.setIfInBounds i true) w'/\aW P ops Q S fuel (aA.setIfInBounds i true) a' w') Q) [{o with guard:=none}] a w)
 (hr:Region.ready .any ops aA=[i]:=by kernel_rfl) (ho:ops[i]? =some o:=by simp only[nrm];rfl) (hg:Region.wanted o (yielded ops a.tmps)=true:=by rfl):aW P ops Q S (fuel+1) aA a w:=
 zP i hr ho rfl rfl hg h
theorem gS {A:Prop} {fuel:Nat} {L:Array Bool} {a a':Act} {w:World} (hS:A)(h:A->aW P ops Q S fuel L a' w)(ha:a=a':=by simp only[nrm];rfl):A/\aW P ops Q S fuel L a w:=aF5 ha hS h
theorem gL {A:World->Prop} {fuel:Nat} {L:Array Bool} {a a':Act} {w:World} (hS:A w)(h:A w->aW P ops Q S fuel L a' w)(ha:a=a':=by simp only[nrm];rfl):
 wpList P ops (rL (λa' w'=>A w'/\aW P ops Q S fuel L a' w') Q) [] a w:=zO ha hS h
theorem ta (i:Nat)(v:Value) {oi:Oper} {fuel:Nat} {aA:Array Bool} {a a':Act} {w:World} (hS:S aA w)
 (h:S (aA.setIfInBounds i true) w->aW P ops Q S fuel (aA.setIfInBounds i true) a' w)
 (hi:ops[i]? =some oi:=by simp only[nrm];rfl) (hy:∀w',(execOp a.eval oi).run P w'=.ok (.value v) w':=by intro w';first | rfl | simp[execOp,go_sem])
 (hb:(Region.noSelect ops&&Region.free .any ops aA i&&(Region.ready .any ops aA).contains i&&kJ ops aA)=true:=by kernel_rfl)
 (hQ:∀c a w,Q (.panic c) (a.put oi.dst v) w->Q (.panic c) a w:=by exact λ_ _ _ h=>h) (hins:∀L w,S (L.setIfInBounds i true) w↔S L w:=by exact λ_ _=>Iff.rfl) (ha:a.put oi.dst v=a':=by simp only[nrm];rfl)
 (hg:Region.wanted oi (yielded ops a.tmps)=true:=by rfl):aW P ops Q S (fuel+1) aA a w:=
 kH i hi rfl hb hQ hins ha hS (.inl ⟨hg,λw' _=>hy w'⟩) h
theorem rg (n:Nat)(S:Array Bool->World->Prop) {id:Nat} {a:Act} {w:World} (h:∀wd:World,wd.heap=w.heap->Below w.heap.size w wd->S (Array.replicate n false) wd/\(S (Array.replicate n false) wd->aW P ops Q S n (Array.replicate n false) a wd))
 (hm:P.follows .mixedOrders=true:=by kernel_rfl) (hn:ops.size=n:=by rfl):(Code.region id ops true).wp P Q a w:=
 yB S hm hn (by rw[hn]) λwd h1 h2=>(h wd h1 h2).2 (h wd h1 h2).1
theorem dn {fuel:Nat} {aA:Array Bool} {a:Act} {w:World} (h:Q .normal a w)(hr:Region.ready .any ops aA=[]:=by kernel_rfl):aW P ops Q S fuel aA a w:=xZ hr h
end
def aH6 (x:Lt):Lt:=⟨x.neg,gT x.l,gT x.r⟩
def cW (c:Cl):Cl:=c.map aH6
def aD6 (x:Lt):Bool:=pD x.l&&pD x.r
theorem gE:∀c:Cl,c.length<=aR c
 | []=>Nat.zero_le _
 | x::c=>by
  have h:=gE c;have h2:0<dN x:=by unfold dN;have:=tW x.l;omega
  unfold aR at*;simp only[List.length_cons,List.map_cons,List.sum_cons];omega
def eT (b:Nat)(t:TypeId)(x y z u v:Value)(w:World):Prop:=w.heap[b]? =some (.cells #[x,y,z,u,v] t (0,0))
section
variable {b:Nat} {t:TypeId} {x y z u v:Value} {w w':World}
theorem eT.lt (h:eT b t x y z u v w):b<w.heap.size:=(Array.getElem?_eq_some_iff.1 h).1
theorem eT.cells (h:eT b t x y z u v w):w.cell? ⟨b,0,none⟩=some x/\w.cell? ⟨b,1,none⟩=some y/\w.cell? ⟨b,2,none⟩=some z/\w.cell? ⟨b,3,none⟩=some u/\w.cell? ⟨b,4,none⟩=some v:=
 ⟨by rw[cell_of_row w b 0 _ _ _ h];rfl,by rw[cell_of_row w b 1 _ _ _ h];rfl,by rw[cell_of_row w b 2 _ _ _ h];rfl,by rw[cell_of_row w b 3 _ _ _ h];rfl,by rw[cell_of_row w b 4 _ _ _ h];rfl⟩
theorem eT.upd {F:Nat->Prop} (h:eT b t x y z u v w)(hu:Upd w w' F)(hF:¬F b):eT b t x y z u v w':=(hu.block b h.lt hF).trans h
end
theorem aD9 (c:Cl)(v:Value)(B:Nat)(w:World)(hr:Rd w B (aT c) v)(hB:B<=w.heap.size)(hz:aR c<=1000000000)(hlow:∀x∈c,aD6 x=true):
 Calls Try.prog 72 #[v] w (yE (λ_=>False) 53 5 ((cW c).map aQ) w):=by
 obtain⟨A,cp,rfl,hc,hn,hm⟩:=Rd.cl_form hr;have Hr:=Lh hr;have Hlow:=Lh hlow;clear hr hlow;go_enter Try.func72,Try.ntmps72;have hf0:(w.alloc (.cells #[.nilFunc] 123)).cell? ⟨w.heap.size,0,none⟩=some .nilFunc:=cell_of_row (w.alloc (.cells #[.nilFunc] 123)) w.heap.size 0 _ _ _ (heap_alloc_new w _);have hf1:=λo=>frozen_of_row (w.alloc (.cells #[.nilFunc] 123)) w.heap.size o _ _ (heap_alloc_new w _)
 go_upto_region 3 with fail
 clear hf0 hf1;obtain⟨hx0,hB0,hz0⟩:=pT w (.cells #[.func (.func 93) #[] #[.pointer (some ⟨w.heap.size,0,none⟩)]] 123);generalize w.alloc (.cells #[.func (.func 93) #[] #[.pointer (some ⟨w.heap.size,0,none⟩)]] 123)=w0 at hx0 hB0 hz0 ⊢;have HX0:=Lh hx0;have HB0:=Lh hB0;clear hx0 hB0;go_wp2_with fail;go_loopw [2,9] (λu i wr=>∃k:Nat,k<=c.length/\i=.int .i64 k/\bC wr (λ_=>False) w0.heap.size 53 5 u ((cW (c.take k)).map aQ)/\Below w0.heap.size w0 wr) (λ_ i _=>c.length-(intOf i).toNat)
 case atStart=>exact⟨0,Nat.zero_le _,rfl,bC.nil _ _ _ _ _,Below.refl _ _⟩
 obtain⟨k,hk,rfl,hown,hup⟩:=hrel;have hzr:=hup.size;have hur:=hown.lt;have Hown:=Lh hown;have Hup:=Lh hup;clear hown hup;by_cases hlt:k<c.length
 . have hbw:Below w.heap.size w wr:=HB0.out.trans (Hup.out.mono (by omega));obtain⟨ab,off,n0,f1,ys1,A1,c1,f2,ys2,A2,c2,rfl,hxk,hab,k0,k1,k2,k3,k4,hr1,hr2⟩:=(Hr.out.low hbw hB).lt_at hlt;have HXK:=Lh hxk;have HR1:=Lh hr1;have HR2:=Lh hr2;have HBW:=Lh hbw;clear hxk hr1 hr2 hbw;go_upto_region 6 with fail
   have hbx5:=aD wr (.cells #[.bool n0,.int .i64 f1,.slice A1 ys1.length c1,.int .i64 f2,.slice A2 ys2.length c2] 53);have hbe5:eT wr.heap.size 53 (.bool n0) (.int .i64 f1) (.slice A1 ys1.length c1) (.int .i64 f2) (.slice A2 ys2.length c2) (wr.alloc (.cells #[.bool n0,.int .i64 f1,.slice A1 ys1.length c1,.int .i64 f2,.slice A2 ys2.length c2] 53)):=heap_alloc_new wr _;generalize wr.alloc (.cells #[.bool n0,.int .i64 f1,.slice A1 ys1.length c1,.int .i64 f2,.slice A2 ys2.length c2] 53)=w5 at hbx5 hbe5 ⊢;have hz5:=hbx5.size;have hbe5s:=hbe5.lt;have hup5:Upd w0 w5 (λ_=>False):=Upd.low (Hup.out.trans (hbx5.mono (by omega))) _;have hown5:=Hown.out.low hbx5;have hbw5:Below w.heap.size w w5:=HBW.out.trans (hbx5.mono (by omega));have hlx:=Hlow.out c[k] (List.getElem_mem hlt);have hmem:=iO hlt;have hlz:=gE c;rw[HXK.out]at hlx hmem;have hlx1:pD (.mk f1 ys1)=true:=by unfold aD6 at hlx;simp at hlx;exact hlx.1
   have hlx2:pD (.mk f2 ys2)=true:=by unfold aD6 at hlx;simp at hlx;exact hlx.2
   have hms:aI ys1+aI ys2<=1000000000:=by simp[dN,aK]at hmem;omega
   have hcl:∀w',Upd w5 w' (λj=>u2.ownBlock=some j)->w'.cell? ⟨w.heap.size,0,none⟩=some (.func (.func 93) #[] #[.pointer (some ⟨w.heap.size,0,none⟩)])/\
    eT wr.heap.size 53 (.bool n0) (.int .i64 f1) (.slice A1 ys1.length c1) (.int .i64 f2) (.slice A2 ys2.length c2) w'/\w5.heap.size<=w'.heap.size/\
    Rd w' B (.sl 2 (aH ys1)) (.slice A1 ys1.length c1)/\Rd w' B (.sl 2 (aH ys2)) (.slice A2 ys2.length c2):=by
    intro w' h;refine⟨?_,hbe5.upd h (λe=>by have:=(hur _ e).2;omega),h.size,h.keepRd (HR1.out.low hbx5 (by have:=HBW.out.size;omega)) (by omega) (λj e=>by have:=(hur _ e).1;omega),h.keepRd (HR2.out.low hbx5 (by have:=HBW.out.size;omega)) (by omega) (λj e=>by have:=(hur _ e).1;omega)⟩;refine cell_of_one (t:=123) ?_;exact(h.block _ (by omega) (λe=>by have:=(hur _ e).1;omega)).trans ((hup5.block _ (by omega) id).trans HX0.out)
   have Hcl:=Lh hcl;obtain⟨t1,ht1⟩:∃t,gT (.mk f1 ys1)=t:=⟨_,rfl⟩;obtain⟨t2,ht2⟩:∃t,gT (.mk f2 ys2)=t:=⟨_,rfl⟩;have Ht1:=Lh ht1;have Ht2:=Lh ht2;have Hup5:=Lh hup5;have Hown5:=Lh hown5;have HBW5:=Lh hbw5;have hlk:((cW (c.take k)).map aQ).length=k:=by unfold cW;simp;omega
   have Hlk:=Lh hlk;clear hcl ht1 ht2 hup5 hown5 hbw5 hbx5 hbe5 hmem hlx k0 k1 k2 k3 k4 Hown hlk;refine rg 15 (λ_ w'=>Upd w5 w' (λj=>u2.ownBlock=some j)) ?_;intro wd hwd hbd;refine⟨?_,λhS=>?_⟩
   . exact Upd.low (hwd ▸ hbd) _
   refine ta 0 (u2) hS λhS=>?_
   refine ta 1 (.pointer (some ⟨wr.heap.size,0,none⟩)) hS λhS=>?_
   refine tk 2 (.bool n0) hS ?_ λhS=>?_
   . intro w' L hn hw;obtain⟨o0,o1,-,-,-⟩:=Hcl.out _ hw;obtain⟨p0,p1,p2,p3,p4⟩:=o1.cells;simp[execOp,go_sem,p0]
   refine tk 3 (.func (.func 93) #[] #[.pointer (some ⟨w.heap.size,0,none⟩)]) hS ?_ λhS=>?_
   . intro w' L hn hw;obtain⟨o0,o1,-,-,-⟩:=Hcl.out _ hw;simp[execOp,go_sem,o0]
   refine ta 4 (.pointer (some ⟨wr.heap.size,1,none⟩)) hS λhS=>?_
   refine tk 5 (.agg #[.int .i64 f1,.slice A1 ys1.length c1]) hS ?_ λhS=>?_
   . intro w' L hn hw;obtain⟨o0,o1,-,-,-⟩:=Hcl.out _ hw;obtain⟨p0,p1,p2,p3,p4⟩:=o1.cells;simp[execOp,go_sem,p1,p2]
   refine tk 7 (.func (.func 93) #[] #[.pointer (some ⟨w.heap.size,0,none⟩)]) hS ?_ λhS=>?_
   . intro w' L hn hw;obtain⟨o0,o1,-,-,-⟩:=Hcl.out _ hw;simp[execOp,go_sem,o0]
   refine ta 8 (.pointer (some ⟨wr.heap.size,3,none⟩)) hS λhS=>?_
   refine tk 9 (.agg #[.int .i64 f2,.slice A2 ys2.length c2]) hS ?_ λhS=>?_
   . intro w' L hn hw;obtain⟨o0,o1,-,-,-⟩:=Hcl.out _ hw;obtain⟨p0,p1,p2,p3,p4⟩:=o1.cells;simp[execOp,go_sem,p3,p4]
   refine so 6 ?_;have hh:=Hcl.out _ hS;have o0:=hh.1;have o2:=hh.2.2.1;have o3:=hh.2.2.2.1;have o4:=hh.2.2.2.2;clear hh;have hc6:=qX (aI ys1+1) f1 ys1 (.slice A1 ys1.length c1) w.heap.size B wd (by omega) (by omega) hlx1 o3 (by omega) (by omega) o0;rw[Ht1.out]at hc6;refine aG ?_ hc6 ?_
   . simp[execOp,resolve,invoke,go_sem]
   rintro e w6 ⟨B1,n1,rfl,hrd1,hb6⟩;refine⟨_,rfl,?_⟩;refine gS ?_ λhS=>?_
   . exact hS.trans (Upd.low hb6 (λ_=>False)) (λ_ h=>h.elim)
   refine so 10 ?_;have hh:=Hcl.out _ hS;have o0:=hh.1;have o2:=hh.2.2.1;have o3:=hh.2.2.2.1;have o4:=hh.2.2.2.2;clear hh;have hc7:=qX (aI ys2+1) f2 ys2 (.slice A2 ys2.length c2) w.heap.size B w6 (by omega) (by omega) hlx2 o4 (by omega) (by omega) o0;rw[Ht2.out]at hc7;refine aG ?_ hc7 ?_
   . simp[execOp,resolve,invoke,go_sem]
   rintro e w7 ⟨B2,n2,rfl,hrd2,hb7⟩;refine⟨_,rfl,?_⟩;refine gS ?_ λhS=>?_
   . exact hS.trans (Upd.low hb7 (λ_=>False)) (λ_ h=>h.elim)
   refine ta 11 (.agg #[.bool n0,.int .i64 t1.fn,.slice B1 t1.args.length n1,.int .i64 t2.fn,.slice B2 t2.args.length n2]) hS λhS=>?_
   refine so 12 ?_;refine aE (v:=.slice (some ⟨w7.heap.size,0,none⟩) 1 1) (w':=w7.alloc (.cells #[.bool n0,.int .i64 t1.fn,.slice B1 t1.args.length n1,.int .i64 t2.fn,.slice B2 t2.args.length n2] 53)) (by simp[execOp,go_sem]) ?_;have hg8:=heap_alloc_new w7 (.cells #[.bool n0,.int .i64 t1.fn,.slice B1 t1.args.length n1,.int .i64 t2.fn,.slice B2 t2.args.length n2] 53);have hb8:=aD w7 (.cells #[.bool n0,.int .i64 t1.fn,.slice B1 t1.args.length n1,.int .i64 t2.fn,.slice B2 t2.args.length n2] 53);generalize w7.alloc (.cells #[.bool n0,.int .i64 t1.fn,.slice B1 t1.args.length n1,.int .i64 t2.fn,.slice B2 t2.args.length n2] 53)=w8 at hg8 hb8 ⊢;refine gS ?_ λhS=>?_
   . exact hS.trans (Upd.low hb8 (λ_=>False)) (λ_ h=>h.elim)
   refine sl 13 ?_;have hz6:=hb6.size;have hz7:=hb7.size;have hz8:=hb8.size;have hzd:wd.heap.size=w5.heap.size:=by rw[hwd]
   have hown8:=(((Hown5.out.low (hwd ▸ hbd:Below w5.heap.size w5 wd)).low hb6).low hb7).low hb8;refine cK w8 rfl (.tmp 13) (.tmp 25) _ rfl nW (M:=λ_=>False) (base:=w0.heap.size) (v:=u2) (trs:=(cW (c.take k)).map aQ) (by simp[go_sem]) hown8 (g:=w7.heap.size) (by simp[go_sem]) hg8 rfl (by intro y hy;simp at hy;rcases hy with rfl | rfl | rfl | rfl | rfl <;> rfl) (by rw[Hlk.out];omega) (by rw[Hlk.out];unfold maxLen;omega) (by omega) (aQ ⟨n0,t1,t2⟩) (by rcases t1 with⟨_,_⟩;rcases t2 with⟨_,_⟩;rfl) ?_ ?_
   . intro j h h';have hj2:j<5:=h';rcases t1 with⟨tf1,ta1⟩
     rcases t2 with⟨tf2,ta2⟩
     rcases(by omega:j=0\/j=1\/j=2\/j=3\/j=4)with rfl | rfl | rfl | rfl | rfl
     . exact .leaf _
     . exact .leaf _
     . exact(((hrd1.low hb7).low hb8)).more λb hb _=>by rcases hb with hb | hb;exact hb.elim;exact⟨.inr (by omega),λe=>by have:=(hur _ e).2;omega⟩
     . exact .leaf _
     exact(hrd2.low hb8).more λb hb _=>by rcases hb with hb | hb;exact hb.elim;exact⟨.inr (by omega),λe=>by have:=(hur _ e).2;omega⟩
   intro v' w9 hown' hup' hat';refine gL ?_ λhS=>?_
   . exact hS.trans hup' (λ_ h=>.inl h)
   refine ta 14 (v') hS λhS=>?_
   refine dn ?_;have hsn:(cW (c.take (k+1))).map aQ=(cW (c.take k)).map aQ++[aQ ⟨n0,t1,t2⟩]:=by
    unfold cW;have h1:=HXK.out;have h2:=Ht1.out;have h3:=Ht2.out;rw[List.take_succ_eq_append_getElem hlt,List.map_append,List.map_append,h1];simp only[List.map_cons,List.map_nil,aH6,h2,h3]
   have Hsn:=Lh hsn;have Ho:=Lh hown';have Hu:=Lh hS;clear hsn hown' hS;go_wp2_with fail;go_roundw
   case rel=>
    refine⟨k+1,by omega,by go_num,by rw[Hsn.out];exact Ho.out,?_⟩;exact(Hup5.out.trans (Hu.out.more (G:=λj=>w0.heap.size<=j) (λj e=>.inl (hur _ e).1)) (λj h=>.inr h)).toLow (Nat.le_refl _) (λ_ h=>h.elim)
   case measure=>simp[intOf];omega
 obtain rfl:k=c.length:=by omega
 have hown:=Hown.out;rw[List.take_length]at hown;have Hown2:=Lh hown;clear hown Hown;go_wp2_with fail;go_ret;exact⟨_,rfl,Hown2.out.base_le (by omega),HB0.out.trans (Hup.out.mono (by omega))⟩
structure JS where
 T:List Tm
 As:List (List Nat)
 Ps:List Nat
 V:Int->Option Nat
def dJ (n:Nat):Value:=.int .i64 (n:Int)
def qY (l:List Nat):Tr:=.sl 1 (l.map λn=>[.leaf (dJ n)])
def oO (w:World)(B:Nat)(t:Tm)(r:List Value):Prop:=∃A c,r=[.int .i64 t.fn,.slice A t.args.length c]/\Rd w B (.sl 2 (aH t.args)) (.slice A t.args.length c)
theorem oO.low {w w':World} {B B':Nat} {t:Tm} {r:List Value} (h:oO w B t r)(hb:Below B' w w')(hB:B<=B'):oO w' B t r:=by
 obtain⟨A,c,h1,h2⟩:=h;exact⟨A,c,h1,h2.low hb hB⟩
def JF (bj gm:Nat)(vt va vp:Value)(b:Nat):Prop:=b=bj\/b=gm\/vt.ownBlock=some b\/va.ownBlock=some b\/vp.ownBlock=some b
structure JR (B:Nat)(X:Nat->Prop)(bj gm:Nat)(s:JS)(vt va vp:Value)(w:World):Prop where
 box:w.heap[bj]? =some (.cells #[vt,va,vp,.map (some gm)] 134 (0,0))
 hB:B<=bj
 hgB:B<=gm
 hm:bK w gm cE (λx=>(s.V x).map dJ)
 ht:∃rows,Own w B 87 2 vt rows/\rows.length=s.T.length/\∀k (h:k<s.T.length) (h':k<rows.length),oO w B s.T[k] rows[k]
 ha:∃us:List Value,Own w B 41 1 va (us.map λu=>[u])/\us.length=s.As.length/\∀k (h:k<s.As.length) (h':k<us.length),RdP w (λb=>B<=b/\¬JF bj gm vt va vp b/\¬X b) (qY s.As[k]) us[k]
 hp:Own w B 3 1 vp (s.Ps.map λn=>[dJ n])
 hX:∀b,X b->¬JF bj gm vt va vp b/\b<w.heap.size
section
variable {X:Nat->Prop} {B bj gm:Nat} {s:JS} {vt va vp:Value} {w w':World}
theorem JR.own (h:JR B X bj gm s vt va vp w):∀g,JF bj gm vt va vp g->B<=g/\g<w.heap.size:=by
 obtain⟨rt,ht,_⟩:=h.ht;obtain⟨us,ha,_⟩:=h.ha;rintro g (rfl | rfl | e | e | e)
 . exact⟨h.hB,(Array.getElem?_eq_some_iff.1 h.box).1⟩
 . exact⟨h.hgB,h.hm.lt⟩
 . exact ht.lt g e
 . exact ha.lt g e
 exact h.hp.lt g e
structure JDis (bj gm:Nat)(vt va vp:Value):Prop where
 bg:bj≠gm
 tb:vt.ownBlock≠some bj
 ab:va.ownBlock≠some bj
 pb:vp.ownBlock≠some bj
 tg:vt.ownBlock≠some gm
 ag:va.ownBlock≠some gm
 pg:vp.ownBlock≠some gm
 ta:∀g,vt.ownBlock=some g->va.ownBlock≠some g
 tp:∀g,vt.ownBlock=some g->vp.ownBlock≠some g
 ap:∀g,va.ownBlock=some g->vp.ownBlock≠some g
theorem JR.dis (h:JR B X bj gm s vt va vp w):JDis bj gm vt va vp:=by
 obtain⟨rt,ht,_⟩:=h.ht;obtain⟨us,ha,_⟩:=h.ha;obtain⟨es,ck,kv,hg,_⟩:=h.hm;refine⟨?_,ht.ne_cells h.box (by decide),ha.ne_cells h.box (by decide),h.hp.ne_cells h.box (by decide),ht.ne_map hg,ha.ne_map hg,h.hp.ne_map hg,?_,?_,?_⟩
 . rintro rfl;have:=h.box;rw[hg]at this;injection this with this
   cases this
 . exact λg e=>ht.ne_own ha (by decide) g e
 . exact λg e=>ht.ne_own h.hp (by decide) g e
 exact λg e=>ha.ne_own h.hp (by decide) g e
theorem JR.low (h:JR B X bj gm s vt va vp w)(hb:Below w.heap.size w w'):JR B X bj gm s vt va vp w':=by
 obtain⟨rt,ht,ht1,ht2⟩:=h.ht;obtain⟨us,ha,ha1,ha2⟩:=h.ha;have hbl:=(h.own bj (.inl rfl)).2;refine⟨(hb.block _ hbl).trans h.box,h.hB,h.hgB,h.hm.low hb,⟨rt,ht.low hb,ht1,λk h1 h2=>(ht2 k h1 h2).low hb (by have:=h.hB;omega)⟩,⟨us,ha.low hb,ha1,λk h1 h2=>(ha2 k h1 h2).low hb⟩,h.hp.low hb,λb e=>⟨(h.hX b e).1,by have:=(h.hX b e).2;have:=hb.size;omega⟩⟩
theorem JR.args_keep {F:Nat->Prop} {vt' va' vp':Value} (h:JR B X bj gm s vt va vp w)(hu:Upd w w' F)(hF:∀g,F g->JF bj gm vt va vp g\/w.heap.size<=g)
 (hn:∀g,JF bj gm vt' va' vp' g->JF bj gm vt va vp g\/w.heap.size<=g) {l:List Nat} {u:Value} (hr:RdP w (λb=>B<=b/\¬JF bj gm vt va vp b/\¬X b) (qY l) u):
 RdP w' (λb=>B<=b/\¬JF bj gm vt' va' vp' b/\¬X b) (qY l) u:=
 (hr.more (P':=λb=>(B<=b/\¬JF bj gm vt' va' vp' b/\¬X b)/\¬F b) (λb hb hl=>⟨⟨hb.1,λe=>(by rcases hn b e with e | e;exact hb.2.1 e;omega),hb.2.2⟩,λe=>by rcases hF b e with e | e;exact hb.2.1 e;omega⟩)).upd hu (λb hb _=>hb.2) |>.more λ_ hb _=>hb.1
theorem JR.hX_keep {F:Nat->Prop} {vt' va' vp':Value} (h:JR B X bj gm s vt va vp w)(hu:Upd w w' F)(hn:∀g,JF bj gm vt' va' vp' g->JF bj gm vt va vp g\/w.heap.size<=g):∀b,X b->¬JF bj gm vt' va' vp' b/\b<w'.heap.size:=
 λb e=>⟨λe2=>by rcases hn b e2 with e2 | e2;exact(h.hX b e).1 e2;have:=(h.hX b e).2;omega,by have:=(h.hX b e).2;have:=hu.size;omega⟩
theorem JR.tm_keep {F:Nat->Prop} (h:JR B X bj gm s vt va vp w)(hu:Upd w w' F)(hF:∀g,F g->B<=g) {t:Tm} {r:List Value} (ht:oO w B t r):oO w' B t r:=
 ht.low (hu.toLow (by have:=(h.own bj (.inl rfl)).2;have:=h.hB;omega) hF) (Nat.le_refl _)
theorem JR.setT {vt':Value} {T':List Tm} {rows':List (List Value)} (h:JR B X bj gm s vt va vp w)(hu:Upd w w' (λb=>b=bj\/vt.ownBlock=some b))(hbox:w'.heap[bj]? =some (.cells #[vt',va,vp,.map (some gm)] 134 (0,0)))
 (ho:Own w' B 87 2 vt' rows') (hl:rows'.length=T'.length) (hr:∀k (h:k<T'.length) (h':k<rows'.length),oO w' B T'[k] rows'[k]) (hat:vt'.ownBlock=vt.ownBlock\/∀g,vt'.ownBlock=some g->w.heap.size<=g):
 JR B X bj gm {s with T:=T'} vt' va vp w':=by
 have hd:=h.dis;obtain⟨us,ha,ha1,ha2⟩:=h.ha;have hn:∀g,JF bj gm vt' va vp g->JF bj gm vt va vp g\/w.heap.size<=g:=by
  rintro g (e | e | e | e | e)
  . exact .inl (.inl e)
  . exact .inl (.inr (.inl e))
  . rcases hat with hat | hat
    . exact .inl (.inr (.inr (.inl (hat ▸ e))))
    exact .inr (hat g e)
  . exact .inl (.inr (.inr (.inr (.inl e))))
  exact .inl (.inr (.inr (.inr (.inr e))))
 have hF:∀g,(g=bj\/vt.ownBlock=some g)->JF bj gm vt va vp g\/w.heap.size<=g:=by
  rintro g (e | e)
  . exact .inl (.inl e)
  exact .inl (.inr (.inr (.inl e)))
 exact⟨hbox,h.hB,h.hgB,h.hm.upd hu (by rintro(e | e);exact hd.bg e.symm;exact hd.tg e),⟨rows',ho,hl,hr⟩,
  ⟨us,ha.upd hu (by rintro g e (e' | e');exact hd.ab (e' ▸ e);exact hd.ta g e' e),ha1,λk h1 h2=>h.args_keep hu hF hn (ha2 k h1 h2)⟩,
  h.hp.upd hu (by rintro g e (e' | e');exact hd.pb (e' ▸ e);exact hd.tp g e' e),h.hX_keep hu hn⟩
theorem JR.setP {vp':Value} {Ps':List Nat} (h:JR B X bj gm s vt va vp w)(hu:Upd w w' (λb=>b=bj\/vp.ownBlock=some b))(hbox:w'.heap[bj]? =some (.cells #[vt,va,vp',.map (some gm)] 134 (0,0)))
 (ho:Own w' B 3 1 vp' (Ps'.map λn=>[dJ n])) (hat:vp'.ownBlock=vp.ownBlock\/∀g,vp'.ownBlock=some g->w.heap.size<=g):
 JR B X bj gm {s with Ps:=Ps'} vt va vp' w':=by
 have hd:=h.dis;obtain⟨us,ha,ha1,ha2⟩:=h.ha;obtain⟨rt,ht,ht1,ht2⟩:=h.ht;have hn:∀g,JF bj gm vt va vp' g->JF bj gm vt va vp g\/w.heap.size<=g:=by
  rintro g (e | e | e | e | e)
  . exact .inl (.inl e)
  . exact .inl (.inr (.inl e))
  . exact .inl (.inr (.inr (.inl e)))
  . exact .inl (.inr (.inr (.inr (.inl e))))
  rcases hat with hat | hat
  . exact .inl (.inr (.inr (.inr (.inr (hat ▸ e)))))
  exact .inr (hat g e)
 have hF:∀g,(g=bj\/vp.ownBlock=some g)->JF bj gm vt va vp g\/w.heap.size<=g:=by
  rintro g (e | e)
  . exact .inl (.inl e)
  exact .inl (.inr (.inr (.inr (.inr e))))
 exact⟨hbox,h.hB,h.hgB,h.hm.upd hu (by rintro(e | e);exact hd.bg e.symm;exact hd.pg e),
  ⟨rt,ht.upd hu (by rintro g e (e' | e');exact hd.tb (e' ▸ e);exact hd.tp g e e'),ht1,λk h1 h2=>h.tm_keep hu (λg e=>by rcases e with e | e;exact e ▸ h.hB;exact(h.hp.lt g e).1) (ht2 k h1 h2)⟩,
  ⟨us,ha.upd hu (by rintro g e (e' | e');exact hd.ab (e' ▸ e);exact hd.ap g e e'),ha1,λk h1 h2=>h.args_keep hu hF hn (ha2 k h1 h2)⟩,ho,h.hX_keep hu hn⟩
theorem JR.setA {va':Value} {As':List (List Nat)} {us':List Value} (h:JR B X bj gm s vt va vp w)(hu:Upd w w' (λb=>b=bj\/va.ownBlock=some b))(hbox:w'.heap[bj]? =some (.cells #[vt,va',vp,.map (some gm)] 134 (0,0)))
 (ho:Own w' B 41 1 va' (us'.map λu=>[u])) (hl:us'.length=As'.length) (hr:∀k (h:k<As'.length) (h':k<us'.length),RdP w' (λb=>B<=b/\¬JF bj gm vt va' vp b/\¬X b) (qY As'[k]) us'[k])
 (hat:va'.ownBlock=va.ownBlock\/∀g,va'.ownBlock=some g->w.heap.size<=g):
 JR B X bj gm {s with As:=As'} vt va' vp w':=by
 have hd:=h.dis;obtain⟨rt,ht,ht1,ht2⟩:=h.ht;obtain⟨us,ha,_⟩:=h.ha;have hn:∀g,JF bj gm vt va' vp g->JF bj gm vt va vp g\/w.heap.size<=g:=by
  rintro g (e | e | e | e | e)
  . exact .inl (.inl e)
  . exact .inl (.inr (.inl e))
  . exact .inl (.inr (.inr (.inl e)))
  . rcases hat with hat | hat
    . exact .inl (.inr (.inr (.inr (.inl (hat ▸ e)))))
    exact .inr (hat g e)
  exact .inl (.inr (.inr (.inr (.inr e))))
 exact⟨hbox,h.hB,h.hgB,h.hm.upd hu (by rintro(e | e);exact hd.bg e.symm;exact hd.ag e),
  ⟨rt,ht.upd hu (by rintro g e (e' | e');exact hd.tb (e' ▸ e);exact hd.ta g e e'),ht1,λk h1 h2=>h.tm_keep hu (λg e=>by rcases e with e | e;exact e ▸ h.hB;exact(ha.lt g e).1) (ht2 k h1 h2)⟩,
  ⟨us',ho,hl,hr⟩,h.hp.upd hu (by rintro g e (e' | e');exact hd.pb (e' ▸ e);exact hd.ap g e' e),h.hX_keep hu hn⟩
theorem JR.setM {V':Int->Option Nat} (h:JR B X bj gm s vt va vp w)(hu:Upd w w' (λb=>b=gm))(hm:bK w' gm cE (λx=>(V' x).map dJ)):JR B X bj gm {s with V:=V'} vt va vp w':=by
 have hd:=h.dis;obtain⟨rt,ht,ht1,ht2⟩:=h.ht;obtain⟨us,ha,ha1,ha2⟩:=h.ha;exact⟨(hu.block bj (h.own bj (.inl rfl)).2 hd.bg).trans h.box,h.hB,h.hgB,hm,
  ⟨rt,ht.upd hu (by rintro g e rfl;exact hd.tg e),ht1,λk h1 h2=>h.tm_keep hu (λg e=>e ▸ h.hgB) (ht2 k h1 h2)⟩,
  ⟨us,ha.upd hu (by rintro g e rfl;exact hd.ag e),ha1,λk h1 h2=>h.args_keep hu (λg e=>.inl (.inr (.inl e))) (λg e=>.inl e) (ha2 k h1 h2)⟩,
  h.hp.upd hu (by rintro g e rfl;exact hd.pg e),h.hX_keep hu (λg e=>.inl e)⟩
theorem JR.updX {F X':Nat->Prop} (h:JR B X bj gm s vt va vp w)(hu:Upd w w' F)(hF:∀b,F b->B<=b/\(X b\/w.heap.size<=b))(hX':∀b,X' b->X b\/(w.heap.size<=b/\b<w'.heap.size)):JR B X' bj gm s vt va vp w':=by
 have hown:=h.own;have hJ:∀b,JF bj gm vt va vp b->¬F b:=λb e e2=>by
  rcases(hF b e2).2 with e3 | e3
  . exact(h.hX b e3).1 e
  have:=(hown b e).2;omega
 have hzz:=hu.size;obtain⟨rt,ht,ht1,ht2⟩:=h.ht;obtain⟨us,ha,ha1,ha2⟩:=h.ha;exact⟨(hu.block bj (hown bj (.inl rfl)).2 (hJ bj (.inl rfl))).trans h.box,h.hB,h.hgB,h.hm.upd hu (hJ gm (.inr (.inl rfl))),⟨rt,ht.upd hu (λg e=>hJ g (.inr (.inr (.inl e)))),ht1,λk h1 h2=>h.tm_keep hu (λg e=>(hF g e).1) (ht2 k h1 h2)⟩,
  ⟨us,ha.upd hu (λg e=>hJ g (.inr (.inr (.inr (.inl e))))),ha1,λk h1 h2=>((ha2 k h1 h2).more (P':=λb=>(B<=b/\¬JF bj gm vt va vp b/\¬X' b)/\¬F b) (λb hb hl=>⟨⟨hb.1,hb.2.1,λe=>by rcases hX' b e with e3 | e3;exact hb.2.2 e3;omega⟩,λe=>by rcases(hF b e).2 with e3 | e3;exact hb.2.2 e3;omega⟩)).upd hu (λb hb _=>hb.2) |>.more λ_ hb _=>hb.1⟩,
  h.hp.upd hu (λg e=>hJ g (.inr (.inr (.inr (.inr e))))),λb e=>by
   rcases hX' b e with e2 | e2
   . have:=h.hX b e2;exact⟨this.1,by omega⟩
   exact⟨λe3=>by have:=(hown b e3).2;omega,e2.2⟩⟩
theorem JR.cells (h:JR B X bj gm s vt va vp w):w.cell? ⟨bj,0,none⟩=some vt/\w.cell? ⟨bj,1,none⟩=some va/\w.cell? ⟨bj,2,none⟩=some vp/\w.cell? ⟨bj,3,none⟩=some (.map (some gm))/\∀o,w.frozen? ⟨bj,o,none⟩=false:=
 ⟨by rw[cell_of_row w bj 0 _ _ _ h.box];rfl,by rw[cell_of_row w bj 1 _ _ _ h.box];rfl,by rw[cell_of_row w bj 2 _ _ _ h.box];rfl,by rw[cell_of_row w bj 3 _ _ _ h.box];rfl,λo=>frozen_of_row w bj o _ _ h.box⟩
theorem JR.tm_at (h:JR B X bj gm s vt va vp w) {k:Nat} (hk:k<s.T.length):
 ∃g c A n,vt=.slice (some ⟨g,0,none⟩) s.T.length c/\w.cell? ⟨g,k*2,none⟩=some (.int .i64 s.T[k].fn)/\w.cell? ⟨g,k*2+1,none⟩=some (.slice A s.T[k].args.length n)/\Rd w B (.sl 2 (aH s.T[k].args)) (.slice A s.T[k].args.length n):=by
 obtain⟨rt,ht,ht1,ht2⟩:=h.ht;have hk':k<rt.length:=by omega
 obtain⟨A,n,hr,hrd⟩:=ht2 k hk hk';obtain⟨A',c',hv,_⟩:=ht.form;rw[ht1]at hv;subst hv;obtain⟨g,rfl,hb,hg,hc,hf⟩:=ht.row_at hk' (by decide);have h0:=hc 0 (by decide);have h1:=hc 1 (by decide);simp only[hr,List.getElem_cons_zero,List.getElem_cons_succ,Nat.add_zero]at h0 h1;exact⟨g,c',A,n,rfl,h0,h1,hrd⟩
theorem JR.args_at (h:JR B X bj gm s vt va vp w) {k:Nat} (hk:k<s.As.length):
 ∃g c u,va=.slice (some ⟨g,0,none⟩) s.As.length c/\w.cell? ⟨g,k,none⟩=some u/\w.frozen? ⟨g,k,none⟩=false/\RdP w (λb=>B<=b/\¬JF bj gm vt va vp b/\¬X b) (qY s.As[k]) u:=by
 obtain⟨us,ha,ha1,ha2⟩:=h.ha;have hk':k<us.length:=by omega
 obtain⟨A',c',hv,_⟩:=ha.form;rw[List.length_map,ha1]at hv;have ha:=ha;subst hv;obtain⟨g,rfl,hb,hg,hc,hf⟩:=ha.row_at (k:=k) (by simpa using hk') (by decide);have h0:=hc 0 (by decide);have f0:=hf 0 (by decide);simp only[List.getElem_map,List.getElem_cons_zero,Nat.mul_one,Nat.add_zero]at h0 f0;exact⟨g,c',_,rfl,h0,f0,ha2 k hk hk'⟩
theorem JR.par_at (h:JR B X bj gm s vt va vp w) {k:Nat} (hk:k<s.Ps.length):
 ∃g c,vp=.slice (some ⟨g,0,none⟩) s.Ps.length c/\w.cell? ⟨g,k,none⟩=some (dJ s.Ps[k])/\w.frozen? ⟨g,k,none⟩=false:=by
 have hp:=h.hp;obtain⟨A',c',hv,_⟩:=hp.form;rw[List.length_map]at hv;subst hv;obtain⟨g,rfl,hb,hg,hc,hf⟩:=hp.row_at (k:=k) (by simpa using hk) (by decide);have h0:=hc 0 (by decide);have f0:=hf 0 (by decide);simp only[List.getElem_map,List.getElem_cons_zero,Nat.mul_one,Nat.add_zero]at h0 f0;exact⟨g,c',rfl,h0,f0⟩
end
structure JGrow (bj gm:Nat)(vt va vp vt' va' vp':Value)(w w':World):Prop where
 upd:Upd w w' (JF bj gm vt va vp)
 new:∀g,JF bj gm vt' va' vp' g->JF bj gm vt va vp g\/w.heap.size<=g
theorem JGrow.low {bj gm:Nat} {vt va vp:Value} {w w':World} (hb:Below w.heap.size w w'):JGrow bj gm vt va vp vt va vp w w':=⟨Upd.low hb _,λ_ h=>.inl h⟩
theorem JGrow.trans {bj gm:Nat} {vt va vp vt' va' vp' vt2 va2 vp2:Value} {w w' w2:World} (h:JGrow bj gm vt va vp vt' va' vp' w w')(k:JGrow bj gm vt' va' vp' vt2 va2 vp2 w' w2):JGrow bj gm vt va vp vt2 va2 vp2 w w2:=
 ⟨
  h.upd.trans k.upd h.new,λg hg=>by
  have:=h.upd.size;rcases k.new g hg with e | e
  . exact h.new g e
  exact .inr (by omega)⟩
theorem gF (w:World)(p q:Addr)(u v:Value)(h:p.block≠q.block):(w.setCell p u).setCell q v=(w.setCell q v).setCell p u:=by
 unfold World.setCell;simp only;congr 1
 refine Array.ext_getElem? λk=>?_
 simp only[Array.getElem?_modify];by_cases h1:p.block=k
 . have h2:q.block≠k:=λe=>h (h1.trans e.symm)
   simp[h1,h2]
 simp[h1]
def aO6 (B:Nat)(X:Nat->Prop)(bj gm:Nat)(s':JS)(vt va vp:Value)(w w':World):Prop:=
 ∃vt' va' vp',JR B X bj gm s' vt' va' vp' w'/\JGrow bj gm vt va vp vt' va' vp' w w'
section
variable {X:Nat->Prop} {B bj gm:Nat} {s:JS} {vt va vp:Value} {w w1 w2:World}
theorem oJ {x0 x1 x2 x3 y0 y1 y2 y3:Value} {w:World} {bj o:Nat} {t:TypeId} (h:w.heap[bj]? =some (.cells #[x0,x1,x2,x3] t (0,0)))(v:Value)(he:(#[x0,x1,x2,x3]:Array Value).setIfInBounds o v= #[y0,y1,y2,y3]):
 (w.setCell ⟨bj,o,none⟩ v).heap[bj]? =some (.cells #[y0,y1,y2,y3] t (0,0)):=by
 have:=heap_setCell_same w bj o _ _ v h;rw[he]at this;exact this
theorem JR.pushP (h:JR B X bj gm s vt va vp w)(hb:Below w.heap.size w w1) {vp':Value} {n:Nat} (ho:Own w2 B 3 1 vp' (s.Ps.map (λn=>[dJ n])++[[dJ n]]))(hu:Upd w1 w2 (λb=>vp.ownBlock=some b))(hat:vp'.ownBlock=vp.ownBlock\/vp'.ownBlock=some w1.heap.size):
 JR B X bj gm ⟨s.T,s.As,s.Ps++[n],s.V⟩ vt va vp' (w2.setCell ⟨bj,2,none⟩ vp')/\JGrow bj gm vt va vp vt va vp' w (w2.setCell ⟨bj,2,none⟩ vp'):=by
 have hd:=h.dis;have hbl:=(h.own bj (.inl rfl)).2;have hz:=hb.size;have hz2:=hu.size;have hup:Upd w (w2.setCell ⟨bj,2,none⟩ vp') (λb=>b=bj\/vp.ownBlock=some b):=((Upd.low hb _).trans hu (λi e=>.inl (.inr e))).setCell _ _ (.inl (.inl rfl));have hat2:vp'.ownBlock=vp.ownBlock\/∀g,vp'.ownBlock=some g->w.heap.size<=g:=hat.imp id λe g eg=>by rw[e]at eg;injection eg with eg;omega
 have hnb:vp'.ownBlock≠some bj:=by
  rcases hat2 with e | e
  . rw[e];exact hd.pb
  intro e2;have:=e bj e2;omega
 have hbox2:w2.heap[bj]? =some (.cells #[vt,va,vp,.map (some gm)] 134 (0,0)):=(hu.block bj (by omega) hd.pb).trans ((hb.block bj hbl).trans h.box);refine⟨h.setP (Ps':=s.Ps++[n]) hup (oJ hbox2 vp' rfl) ?_ hat2,⟨hup.more λi e=>.inl (by rcases e with e | e;exact .inl e;exact .inr (.inr (.inr (.inr e)))),?_⟩⟩
 . rw[List.map_append];exact ho.upd (aM _) (λg e e2=>hnb (e2 ▸ e))
 rintro g (e | e | e | e | e)
 . exact .inl (.inl e)
 . exact .inl (.inr (.inl e))
 . exact .inl (.inr (.inr (.inl e)))
 . exact .inl (.inr (.inr (.inr (.inl e))))
 rcases hat2 with e' | e'
 . exact .inl (.inr (.inr (.inr (.inr (e' ▸ e)))))
 exact .inr (e' g e)
theorem JR.pushA (h:JR B X bj gm s vt va vp w)(hb:Below w.heap.size w w1) {us:List Value} {va':Value} (hus:us.length=s.As.length/\∀k (h:k<s.As.length) (h':k<us.length),RdP w (λb=>B<=b/\¬JF bj gm vt va vp b/\¬X b) (qY s.As[k]) us[k])
 (ho:Own w2 B 41 1 va' (us.map (λu=>[u])++[[.slice none 0 0]])) (hu:Upd w1 w2 (λb=>va.ownBlock=some b)) (hat:va'.ownBlock=va.ownBlock\/va'.ownBlock=some w1.heap.size):
 JR B X bj gm ⟨s.T,s.As++[[]],s.Ps,s.V⟩ vt va' vp (w2.setCell ⟨bj,1,none⟩ va')/\JGrow bj gm vt va vp vt va' vp w (w2.setCell ⟨bj,1,none⟩ va'):=by
 have hd:=h.dis;have hbl:=(h.own bj (.inl rfl)).2;have hz:=hb.size;have hz2:=hu.size;have hup:Upd w (w2.setCell ⟨bj,1,none⟩ va') (λb=>b=bj\/va.ownBlock=some b):=((Upd.low hb _).trans hu (λi e=>.inl (.inr e))).setCell _ _ (.inl (.inl rfl));have hat2:va'.ownBlock=va.ownBlock\/∀g,va'.ownBlock=some g->w.heap.size<=g:=hat.imp id λe g eg=>by rw[e]at eg;injection eg with eg;omega
 have hnb:va'.ownBlock≠some bj:=by
  rcases hat2 with e | e
  . rw[e];exact hd.ab
  intro e2;have:=e bj e2;omega
 have hbox2:w2.heap[bj]? =some (.cells #[vt,va,vp,.map (some gm)] 134 (0,0)):=(hu.block bj (by omega) hd.ab).trans ((hb.block bj hbl).trans h.box);have hnew:∀g,JF bj gm vt va' vp g->JF bj gm vt va vp g\/w.heap.size<=g:=by
  rintro g (e | e | e | e | e)
  . exact .inl (.inl e)
  . exact .inl (.inr (.inl e))
  . exact .inl (.inr (.inr (.inl e)))
  . rcases hat2 with e' | e'
    . exact .inl (.inr (.inr (.inr (.inl (e' ▸ e)))))
    exact .inr (e' g e)
  exact .inl (.inr (.inr (.inr (.inr e))))
 refine⟨h.setA (As':=s.As++[[]]) (us':=us++[.slice none 0 0]) hup (oJ hbox2 va' rfl) ?_ (by simp[hus.1]) ?_ hat2,⟨hup.more λi e=>.inl (by rcases e with e | e;exact .inl e;exact .inr (.inr (.inr (.inl e)))),hnew⟩⟩
 . rw[List.map_append];exact ho.upd (aM _) (λg e e2=>hnb (e2 ▸ e))
 intro k h1 h2;by_cases hk:k<s.As.length
 . rw[List.getElem_append_left hk,List.getElem_append_left (by omega)];exact h.args_keep hup (λg e=>.inl (by rcases e with e | e;exact .inl e;exact .inr (.inr (.inr (.inl e))))) hnew (hus.2 k hk (by omega))
 have hk1:k=s.As.length:=by simp at h1;omega
 have hk2:k=us.length:=by omega
 rw[List.getElem_append_right (by omega),List.getElem_append_right (by omega)];simp only[hk1,hus.1,Nat.sub_self,List.getElem_cons_zero];exact .none_ _
theorem JR.pushT (h:JR B X bj gm s vt va vp w)(hb:Below w.heap.size w w1) {g c:Nat} {rows:List (List Value)} {t:Tm} {u0 u1:Value} (hrt:rows.length=s.T.length/\∀k (h:k<s.T.length) (h':k<rows.length),oO w B s.T[k] rows[k])
 (ho:Own w2 B 87 2 (.slice (some ⟨g,0,none⟩) (s.T.length+1) c) (rows++[[u0,u1]])) (hu:Upd w1 w2 (λb=>vt.ownBlock=some b)) (hat:some g=vt.ownBlock\/g=w1.heap.size) {A:Option Addr} {n:Nat}
 (ht:Rd w B (.sl 2 (aH t.args)) (.slice A t.args.length n)):
 JR B X bj gm ⟨s.T++[t],s.As,s.Ps,s.V⟩ (.slice (some ⟨g,0,none⟩) (s.T.length+1) c) va vp (((w2.setCell ⟨g,s.T.length*2,none⟩ (.int .i64 t.fn)).setCell ⟨g,s.T.length*2+1,none⟩ (.slice A t.args.length n)).setCell ⟨bj,0,none⟩ (.slice (some ⟨g,0,none⟩) (s.T.length+1) c))/\
  JGrow bj gm vt va vp (.slice (some ⟨g,0,none⟩) (s.T.length+1) c) va vp w (((w2.setCell ⟨g,s.T.length*2,none⟩ (.int .i64 t.fn)).setCell ⟨g,s.T.length*2+1,none⟩ (.slice A t.args.length n)).setCell ⟨bj,0,none⟩ (.slice (some ⟨g,0,none⟩) (s.T.length+1) c)):=by
 have hd:=h.dis;have hbl:=(h.own bj (.inl rfl)).2;have hz:=hb.size;have hz2:=hu.size;have hgo:some g=vt.ownBlock\/w.heap.size<=g:=hat.imp id (λe=>by omega);have hgb:g≠bj:=by
  rcases hgo with e | e
  . rintro rfl;exact hd.tb e.symm
  omega
 have hup:Upd w (((w2.setCell ⟨g,s.T.length*2,none⟩ (.int .i64 t.fn)).setCell ⟨g,s.T.length*2+1,none⟩ (.slice A t.args.length n)).setCell ⟨bj,0,none⟩ (.slice (some ⟨g,0,none⟩) (s.T.length+1) c)) (λb=>b=bj\/vt.ownBlock=some b):=
  ((((Upd.low hb _).trans hu (λi e=>.inl (.inr e))).setCell _ _ (hgo.imp (λe=>.inr e.symm) id)).setCell _ _ (hgo.imp (λe=>.inr e.symm) id)).setCell _ _ (.inl (.inl rfl))
 have hbox2:w2.heap[bj]? =some (.cells #[vt,va,vp,.map (some gm)] 134 (0,0)):=(hu.block bj (by omega) hd.tb).trans ((hb.block bj hbl).trans h.box);have hbox3:=((aM (w:=w2.setCell ⟨g,s.T.length*2,none⟩ (.int .i64 t.fn)) (b:=g) (o:=s.T.length*2+1) (.slice A t.args.length n)).block bj (by have:=(Array.getElem?_eq_some_iff.1 hbox2).1;simpa [World.setCell]using this) (Ne.symm hgb)).trans (((aM (w:=w2) (b:=g) (o:=s.T.length*2) (.int .i64 t.fn)).block bj (Array.getElem?_eq_some_iff.1 hbox2).1 (Ne.symm hgb)).trans hbox2);have ho2:=ho.setRow2 (k:=s.T.length) (by simp[hrt.1]) (.int .i64 t.fn) (.slice A t.args.length n);have hrows:(rows++[[u0,u1]]).set s.T.length [.int .i64 t.fn,.slice A t.args.length n]=rows++[[.int .i64 t.fn,.slice A t.args.length n]]:=by
  rw[<-hrt.1];simp
 rw[hrows]at ho2;have hFB:∀b,(b=bj\/vt.ownBlock=some b)->B<=b:=by
  rintro b (e | e)
  . exact e ▸ h.hB
  exact(h.own b (.inr (.inr (.inl e)))).1
 refine⟨h.setT (T':=s.T++[t]) (rows':=rows++[[.int .i64 t.fn,.slice A t.args.length n]]) hup (oJ hbox3 _ rfl) (ho2.upd (aM _) (λb e e2=>by injection e with e;exact hgb (e.trans e2))) (by simp[hrt.1]) ?_ ?_,⟨hup.more λi e=>.inl (by rcases e with e | e;exact .inl e;exact .inr (.inr (.inl e))),?_⟩⟩
 . intro k h1 h2;by_cases hk:k<s.T.length
   . rw[List.getElem_append_left hk,List.getElem_append_left (by omega)];exact h.tm_keep hup hFB (hrt.2 k hk (by omega))
   have hk1:k=s.T.length:=by simp at h1;omega
   rw[List.getElem_append_right (by omega),List.getElem_append_right (by omega)];simp only[hk1,hrt.1,Nat.sub_self,List.getElem_cons_zero];exact h.tm_keep hup hFB ⟨A,n,rfl,ht⟩
 . rcases hgo with e | e
   . exact .inl e
   exact .inr λg' e'=>by injection e' with e';simp only at e';omega
 rintro b (e | e | e | e | e)
 . exact .inl (.inl e)
 . exact .inl (.inr (.inl e))
 . injection e with e
   simp only at e;subst e;rcases hgo with e | e
   . exact .inl (.inr (.inr (.inl e.symm)))
   exact .inr e
 . exact .inl (.inr (.inr (.inr (.inl e))))
 exact .inl (.inr (.inr (.inr (.inr e))))
theorem Own.rdP {base size:Nat} {e:TypeId} {v:Value} {rows:List (List Value)} (h:Own w base e size v rows)(hn:rows.length<=140737488351232):RdP w (λb=>v.ownBlock=some b) (.sl size (rows.map λr=>r.map .leaf)) v:=by
 rcases h.1.2 with⟨rfl,hn⟩ | ⟨g,cap,cur,hv,hb,hg,hnc,hcm,hcs,htake⟩
 . have:rows=[]:=List.eq_nil_of_length_eq_zero hn;subst this;exact .none_ _
 have hlt:g<w.heap.size:=(Array.getElem?_eq_some_iff.1 hg).1;have hown:v.ownBlock=some g:=by rw[hv];rfl
 have:=RdP.row (w:=w) (P:=λb=>v.ownBlock=some b) size g 0 cap (rows.map λr=>r.map .leaf) (λk j=>((rows[k]?.getD [])[j]?).getD undef)
  (by intro r hr;obtain⟨r',hr',rfl⟩:=List.mem_map.1 hr;rw[List.length_map];exact h.2 r' hr')
  (by simpa using hnc) (by simpa using hn) hcm hown hlt
  (by
   intro k j hk hj;rw[List.length_map]at hk;obtain⟨g',c',hv',_,_,hc',_⟩:=h.cell hk hj;rw[hv]at hv';injection hv' with hA _ _
   injection hA with hA
   injection hA with hA _ _
   subst hA;rw[Nat.zero_add,hc'];have hjl:j<rows[k].length:=by rw[h.2 _ (List.getElem_mem hk)];exact hj
   simp[hk,hjl])
  (by
   intro k hk j hj;simp only[List.length_map]at hk;simp only[List.getElem_map,List.length_map]at hj ⊢;have:((rows[k]?.getD [])[j]?).getD undef=rows[k][j]:=by simp[hk,hj]
   rw[this];exact .leaf _)
 rw[List.length_map]at this;rw[hv]at this ⊢;exact this
theorem Own.nsP {base:Nat} {e:TypeId} {v:Value} {l:List Nat} (h:Own w base e 1 v (l.map λn=>[dJ n]))(hn:l.length<=140737488351232):RdP w (λb=>v.ownBlock=some b) (qY l) v:=by
 have:=h.rdP (by rw[List.length_map];exact hn);rw[List.map_map]at this;exact this
theorem JR.setArg (h:JR B X bj gm s vt va vp w) {k g n c:Nat} (hk:k<s.As.length)(hva:va=.slice (some ⟨g,0,none⟩) n c) {u:Value} {l:List Nat} (hu:RdP w (λb=>B<=b/\¬JF bj gm vt va vp b/\¬X b) (qY l) u):
 JR B X bj gm ⟨s.T,s.As.set k l,s.Ps,s.V⟩ vt va vp (w.setCell ⟨g,k,none⟩ u)/\JGrow bj gm vt va vp vt va vp w (w.setCell ⟨g,k,none⟩ u):=by
 have hd:=h.dis;have hgo:va.ownBlock=some g:=by rw[hva];rfl
 have hup:Upd w (w.setCell ⟨g,k,none⟩ u) (λb=>b=bj\/va.ownBlock=some b):=(Upd.refl w _).setCell _ _ (.inl (.inr hgo));have hF:∀b,(b=bj\/va.ownBlock=some b)->JF bj gm vt va vp b\/w.heap.size<=b:=by
  rintro b (e | e)
  . exact .inl (.inl e)
  exact .inl (.inr (.inr (.inr (.inl e))))
 obtain⟨us,ha,ha1,ha2⟩:=h.ha;have hgb:g≠bj:=by rintro rfl;exact hd.ab hgo
 rw[hva]at ha;have ho:=ha.set1 (j:=k) u;refine⟨h.setA (As':=s.As.set k l) (us':=us.set k u) hup ((aM _).block bj (h.own bj (.inl rfl)).2 (Ne.symm hgb) |>.trans h.box) (by rw[hva];exact ho) (by simp[ha1]) ?_ (.inl rfl),⟨hup.more hF,λ_ e=>.inl e⟩⟩;intro j h1 h2;by_cases hjk:k=j
 . subst hjk;simp only[List.getElem_set_self];exact h.args_keep hup hF (λ_ e=>.inl e) hu
 rw[List.getElem_set_ne hjk,List.getElem_set_ne hjk];exact h.args_keep hup hF (λ_ e=>.inl e) (ha2 j (by simpa using h1) (by simpa using h2))
end
end Go.Proofs.Ytiaoabfndnidiaa