/-
 Part 3 of the proof over the checker:walks and plain laws.
-/
import Derived.Test.YtiaoabfndnidiaaMB
import Derived.Deep.DeepAppendRoom
import Derived.Laws.IdiomCopy
import Derived.StillTailTactics
import Derived.Test.YtiaoabfndnidiaaMA
set_option maxRecDepth 100000
set_option maxHeartbeats 8000000
set_option linter.unusedSimpArgs false
set_option linter.unusedVariables false
namespace Go.Proofs.Ytiaoabfndnidiaa
open Go.RowKit
def eJ:Tm->List Int->Tm->Tm
 | _,[],u=>u
 | .mk f xs,i::p,u=>.mk f (match xs[i.toNat]? with | some x=>xs.set i.toNat (eJ x p u) | none=>xs)
def TmR (M:Nat->Prop)(t:Tm)(w:World)(e:Ending)(w':World):Prop:=
 ∃A c,e=.returned (.agg #[.int .i64 t.fn,.slice A t.args.length c])/\RdP w' (NbP M w.heap.size) (.sl 2 (aH t.args)) (.slice A t.args.length c)/\Below w.heap.size w w'
theorem yL (xs:List Tm)(k:Nat)(x:Tm):aH (xs.set k x)=(aH xs).set k (bB x):=by
 rw[bS,bS,List.map_set]
def aP9 (M:Nat->Prop)(g1 j:Nat)(r:Tm)(W:World)(l15 l17:Bool)(x:Value)(w:World):Prop:=
 Upd W w (λk=>k=g1)/\∃wm,Below W.heap.size W wm/\(l15=false->l17=false)/\(l17=false->w=wm)/\
  (l15=true->∃A c,x=.agg #[.int .i64 r.fn,.slice A r.args.length c]/\RdP wm (NbP M W.heap.size) (.sl 2 (aH r.args)) (.slice A r.args.length c)/\
   (l17=true->w=(wm.setCell ⟨g1,j*2,none⟩ (.int .i64 r.fn)).setCell ⟨g1,j*2+1,none⟩ (.slice A r.args.length c)))
theorem yQ {α:Type} {l:List α} {k:Nat} (h:k<l.length):l[k]? =some l[k]:=List.getElem?_eq_getElem h
theorem Rd.tail1 {w:World} {B ap op n c:Nat} {r:List Tr} {rows:List (List Tr)} (h:Rd w B (.sl 1 (r::rows)) (.slice (some ⟨ap,op,none⟩) n c)):Rd w B (.sl 1 rows) (.slice (some ⟨ap,op+1,none⟩) rows.length (c-1)):=by
 rcases h.sl_inv with⟨h,_⟩ | ⟨b,off,c',us,hv,h1,h2,h3,h4,h5,h6⟩
 . cases h
 injection hv with hA hn hc
 injection hA with hA
 injection hA with hb ho _
 subst hb ho hc;simp only[List.length_cons]at h1 h2;refine .row 1 ap (op+1) (c-1) rows (λk j=>us (k+1) j) ?_ (by omega) (by omega) (by omega) h4 ?_ ?_
 . intro r' hr';cases h with
   | row _ _ _ _ _ _ hl=>exact hl r' (List.mem_cons_of_mem _ hr')
 . intro k j hk hj;have:=h5 (k+1) j (by simpa using hk) hj;rw[show op+1+k*1+j=op+(k+1)*1+j by omega];exact this
 intro k hk j hj;exact h6 (k+1) (by simpa using hk) j (by simpa using hj)
theorem aA6:∀(p:List Int) (f g:Int) (xs us:List Tm) (v2 vu vp:Value) (M:Nat->Prop) (B:Nat) (w:World),RdP w M (.sl 2 (aH xs)) v2->RdP w M (.sl 2 (aH us)) vu->Rd w B (bM p) vp->B<=w.heap.size->
 aI xs<=1000000000->atT (.mk f xs) p≠none->
 Calls Try.prog 94 #[.agg #[.int .i64 f,v2],vp,.agg #[.int .i64 g,vu]] w (TmR M (eJ (.mk f xs) p (.mk g us)) w):=by
 intro p;induction p with
 | nil=>
  intro f g xs us v2 vu vp M B w hr hu hp hB hz hat;obtain⟨A,c,rfl,hc,hn,hm⟩:=hr.rd'.tm_form;obtain⟨Au,cu,rfl,hcu,hnu,hmu⟩:=hu.rd'.tm_form;obtain⟨Ap,cp,rfl,hcp,hnp,hmp⟩:=Rd.row_form hp;have HU:=Lh hu;clear hr hp hu hat;rw[eJ];obtain⟨hx1,hx2,hx3,hB3,hz3⟩:=fW w (.cells #[.int .i64 f,.slice A xs.length c] 87) (.cells #[.int .i64 g,.slice Au us.length cu] 87) (.cells #[.int .i64 0,.slice none 0 0] 87);go_enter Try.func94,Try.ntmps94;go_upto_region 1 with fail
  generalize ((w.alloc (.cells #[.int .i64 f,.slice A xs.length c] 87)).alloc (.cells #[.int .i64 g,.slice Au us.length cu] 87)).alloc (.cells #[.int .i64 0,.slice none 0 0] 87)=w3 at hx1 hx2 hx3 hB3 hz3 ⊢;have hb2:aL (w.heap.size+1) 87 (.int .i64 g) (.slice Au us.length cu) w3:=hx2;have hb3:aL (w.heap.size+1+1) 87 (.int .i64 0) (.slice none 0 0) w3:=hx3;obtain⟨m0,m1,m2⟩:=hb2.cells;obtain⟨n0,n1,n2⟩:=hb3.cells;obtain⟨s1,s2⟩:=hb3.set (.int .i64 g) (.slice Au us.length cu);have Hs1:=Lh s1;have Hs2:=Lh s2;have HB3:=Lh hB3;clear s1 s2 hx1 hx2 hx3 hB3 hb2 hb3;go_wp2_with fail;obtain⟨j0,j1,_⟩:=Hs1.out.cells;refine bodyPost_ret (v:=.agg #[.int .i64 g,.slice Au us.length cu]) (by simp[results,Try.results94,go_sem,j0,j1]) rfl ?_;have hlow:=HB3.out.trans (Hs2.out.toLow (B:=w.heap.size) (by omega) (by rintro k rfl;omega));refine⟨Au,cu,rfl,?_,hlow⟩;exact(HU.out.low hlow).more λb hb _=>.inl hb
 | cons i p ih=>
  intro f g xs us v2 vu vp M B w hr hu hp hB hz hat;obtain⟨A,c,rfl,hc,hn,hm⟩:=hr.rd'.tm_form;obtain⟨Au,cu,rfl,hcu,hnu,hmu⟩:=hu.rd'.tm_form;obtain⟨Ap,cp,rfl,hcp,hnp,hmp⟩:=Rd.row_form hp;have hlz:=bL xs;have HM:=Lh (hr.more (P':=λb=>M b/\b<w.heap.size) (λb hb hlt=>⟨hb,hlt⟩));have HUM:=Lh (hu.more (P':=λb=>M b/\b<w.heap.size) (λb hb hlt=>⟨hb,hlt⟩));have hin:0<=i/\i<xs.length:=by
   by_cases h:0<=i/\i<xs.length
   . exact h
   exact absurd (pR h) hat
  obtain⟨hi0,hi1⟩:=hin;obtain⟨j,rfl⟩:∃j:Nat,i=j:=⟨i.toNat,by omega⟩;have hj:j<xs.length:=by omega
  rw[pS hi0 (by simpa using hj)]at hat;simp only[Int.toNat_natCast]at hat;have hres:eJ (.mk f xs) ((j:Int)::p) (.mk g us)=.mk f (xs.set j (eJ xs[j] p (.mk g us))):=by
   rw[eJ];simp only[Int.toNat_natCast];rw[yQ hj]
  rw[hres];obtain⟨r,hr'⟩:∃r,eJ xs[j] p (.mk g us)=r:=⟨_,rfl⟩;rw[hr'];have Hr:=Lh hr';clear hr';have hsz:=aZ hj;obtain⟨ap,op,rfl,hap,kp⟩:=Rd.leaf_at (f:=λn:Int=>Value.int .i64 n) (k:=0) hp (by simp);simp only[List.getElem_cons_zero,Nat.add_zero]at kp;have hp2:Rd w B (bM p) (.slice (if cp=1 then some ⟨ap,op,none⟩else some ⟨ap,op+1,none⟩) p.length (cp-1)):=by
   unfold bM at hp ⊢;by_cases h1:cp=1
   . rw[if_pos h1];have:p=[]:=List.eq_nil_of_length_eq_zero (by simp at hcp;omega);subst this;subst h1;exact .empty _ _
   rw[if_neg h1];have:=hp.tail1;simpa using this
  obtain⟨tp,htp⟩:∃tp,(if cp=1 then some (⟨ap,op,none⟩:Addr)else some ⟨ap,op+1,none⟩)=tp:=⟨_,rfl⟩;rw[htp]at hp2;have Htp:=Lh htp;clear htp;have HU:=Lh hu;have HR:=Lh hr;have HP2:=Lh hp2;have Hat:=Lh hat;have Hih:=Lh ih;clear hr hp hu hat hp2 ih hres;simp only[List.length_cons]at hcp hnp ⊢;obtain⟨hx1,hx2,hx3,hB3,hz3⟩:=fW w (.cells #[.int .i64 f,.slice A xs.length c] 87) (.cells #[.int .i64 g,.slice Au us.length cu] 87) (.cells #[.int .i64 0,.slice none 0 0] 87);go_enter Try.func94,Try.ntmps94;go_upto_region 1 with fail
  generalize ((w.alloc (.cells #[.int .i64 f,.slice A xs.length c] 87)).alloc (.cells #[.int .i64 g,.slice Au us.length cu] 87)).alloc (.cells #[.int .i64 0,.slice none 0 0] 87)=w3 at hx1 hx2 hx3 hB3 hz3 ⊢;have hb1:aL w.heap.size 87 (.int .i64 f) (.slice A xs.length c) w3:=hx1;obtain⟨m0,m1,m2⟩:=hb1.cells;have HB3:=Lh hB3;have Hx1:=Lh hx1;have Hx2:=Lh hx2;have Hx3:=Lh hx3;clear hx1 hx2 hx3 hB3 hb1;go_upto_region 4 with(
   go_at_call 98
   refine(yJ xs _ (λb=>M b/\b<w.heap.size) w3 (HM.out.low HB3.out) (by omega)).mono ?_;rintro e w4 ⟨v1,rfl,hown,hb4⟩;obtain⟨A1,c1,hv1,hc1,hm1⟩:=hown.form;rw[bG]at hv1 hc1;subst hv1;have hb1:aL w.heap.size 87 (.int .i64 f) (.slice A xs.length c) w4:=(hb4.block _ (by omega)).trans Hx1.out;have hz4:=hb4.size;have hl1:w.heap.size<w4.heap.size:=by omega
   obtain⟨k0,k1,k2⟩:=hb1.cells;have Hown:=Lh hown;have Hb4:=Lh hb4;have Hb1:=Lh hb1;clear hown hb4 hb1 m0 m1 m2)
  rcases hxj:xs[j]with⟨f',ys⟩
  have hsz2:aI ys<aK xs[j]:=by rw[hxj];simp[aK]
  have hown5:bC (w4.setCell ⟨w.heap.size,1,none⟩ (.slice A1 xs.length c1)) (λb=>M b/\b<w.heap.size) w3.heap.size 51 2 (.slice A1 xs.length c1) (aH xs):=Hown.out.upd (aM _) (λb hb _=>by rcases hb with hb | hb;have:=hb.2;omega;omega);have hbx5:=Hb1.out.put1 (.slice A1 xs.length c1);have hup5:=aM (w:=w4) (b:=w.heap.size) (o:=1) (.slice A1 xs.length c1);have hz5:(w4.setCell ⟨w.heap.size,1,none⟩ (.slice A1 xs.length c1)).heap.size=w4.heap.size:=by simp[World.setCell]
  generalize w4.setCell ⟨w.heap.size,1,none⟩ (.slice A1 xs.length c1)=w5 at hown5 hbx5 hup5 hz5 ⊢;have hrowe:(aH xs)[j]'(by rw[bG];exact hj)=[.leaf (.int .i64 f'),.sl 2 (aH ys)]:=by simp[bS,hxj,bB]
  obtain⟨g1,u0,u1,rfl,hg1b,hg1,hnn,q0,q1,q2,hr0,hr1⟩:=hown5.row2 (k:=j) (by rw[bG];exact hj);clear hnn;have hr0':=hr0 (by rw[hrowe];simp);have hr1':=hr1 (by rw[hrowe];simp);simp only[hrowe,List.getElem_cons_zero,List.getElem_cons_succ]at hr0' hr1';obtain rfl:=hr0'.leaf_inv;obtain⟨A',c',rfl,_⟩:=(hr1'.rd').tm_form;have hBup:Below w.heap.size w w5:=HB3.out.trans ((Hb4.out.mono (by omega)).trans (hup5.toLow (by omega) (by rintro k rfl;omega)));have hbu5:aL (w.heap.size+1) 87 (.int .i64 g) (.slice Au us.length cu) w5:=((hup5.block _ (by omega) (by omega)).trans (Hb4.out.block _ (by omega))).trans Hx2.out;have hbr5:aL (w.heap.size+1+1) 87 (.int .i64 0) (.slice none 0 0) w5:=((hup5.block _ (by omega) (by omega)).trans (Hb4.out.block _ (by omega))).trans Hx3.out;obtain⟨a0,a1,_⟩:=hbx5.cells;obtain⟨b0,b1,_⟩:=hbu5.cells;have kp5:=(hBup.cell (p:=⟨ap,op,none⟩) (by show ap<w.heap.size;omega)).trans kp;have Hr1:=Lh hr1';have Hown5:=Lh hown5;have Hbx5:=Lh hbx5;have Hbr5:=Lh hbr5;have HBup:=Lh hBup;have Hxj:=Lh hxj;have hsz3:aI ys<=1000000000:=by omega
  clear hr0 hr1 hr0' hr1' hown5 hbx5 hup5 hbr5 hBup hxj hbu5 k0 k1 k2 hrowe hsz hsz2 hl1;refine dC (sp:=λk=>k==15) (vals:=λx k=>match k with | 0=>(.pointer (some ⟨w.heap.size,1,none⟩):Value) | 1=>(.slice (some ⟨g1,0,none⟩) xs.length c1:Value) | 2=>(.slice (some ⟨ap,op,none⟩) (p.length+1) cp:Value) | 3=>(.pointer (some ⟨ap,op,none⟩):Value) | 4=>(.int .i64 (j:Int):Value) | 5=>(.pointer (some ⟨w.heap.size,1,none⟩):Value) | 6=>(.slice (some ⟨g1,0,none⟩) xs.length c1:Value) | 7=>(.slice (some ⟨ap,op,none⟩) (p.length+1) cp:Value) | 8=>(.pointer (some ⟨ap,op,none⟩):Value) | 9=>(.int .i64 (j:Int):Value) | 10=>(.pointer (some ⟨g1,j*2,none⟩):Value) | 11=>(.agg #[.int .i64 f',.slice A' ys.length c']:Value) | 12=>(.slice (some ⟨ap,op,none⟩) (p.length+1) cp:Value) | 13=>(.slice tp p.length (cp-1):Value) | 14=>(.agg #[.int .i64 g,.slice Au us.length cu]:Value) | 15=>(x 30:Value) | 16=>(.pointer (some ⟨g1,j*2,none⟩):Value) | 17=>(undef:Value) | _=>undef) (D:=λk=>match k with | 0=>some 15 | 1=>some 16 | 2=>some 17 | 3=>some 18 | 4=>some 19 | 5=>some 20 | 6=>some 21 | 7=>some 22 | 8=>some 23 | 9=>some 24 | 10=>some 25 | 11=>some 26 | 12=>some 27 | 13=>some 28 | 14=>some 29 | 15=>some 30 | 16=>some 31 | _=>none) (J:=λaA x w'=>aP9 (λb=>NbP (λb=>M b/\b<w.heap.size) w3.heap.size b/\b≠g1) g1 j r w5 (aA.getD 15 false) (aA.getD 17 false) (x 30) w') (by kernel_rfl) ?hs ?hd ?hsp ?h0 ?step ?fin
  case hs=>
   intro i o ho;have hi:i<18:=(Array.getElem?_eq_some_iff.1 ho).1;rcases aH5 hi with rfl | rfl | rfl | rfl | rfl | rfl | rfl | rfl | rfl | rfl | rfl | rfl | rfl | rfl | rfl | rfl | rfl | rfl
   all_goals obtain rfl:=Option.some.inj (show some _=some o from ho)
   all_goals exact⟨by simp[Region.binds],rfl,λs hs=>by first | (cases hs;done) | (obtain rfl:=Option.some.inj hs;show _<33;decide)⟩
  case hd=>
   intro k k' s hk hk' h h';have hk:k<18:=hk;have hk':k'<18:=hk';refine dL (D:=[some 15,some 16,some 17,some 18,some 19,some 20,some 21,some 22,some 23,some 24,some 25,some 26,some 27,some 28,some 29,some 30,some 31,none]) (by decide) (k:=k) (k':=k') (s:=s) ?_ ?_
   . rcases aH5 hk with rfl | rfl | rfl | rfl | rfl | rfl | rfl | rfl | rfl | rfl | rfl | rfl | rfl | rfl | rfl | rfl | rfl | rfl
     all_goals exact congrArg some h
   rcases aH5 hk' with rfl | rfl | rfl | rfl | rfl | rfl | rfl | rfl | rfl | rfl | rfl | rfl | rfl | rfl | rfl | rfl | rfl | rfl
   all_goals exact congrArg some h'
  case hsp=>
   intro k s hk hks x;have hk:k<18:=hk;rcases aH5 hk with rfl | rfl | rfl | rfl | rfl | rfl | rfl | rfl | rfl | rfl | rfl | rfl | rfl | rfl | rfl | rfl | rfl | rfl
   all_goals first | rfl | (obtain rfl:=Option.some.inj hks;rfl) | cases hks
  case h0=>
   exact⟨(Upd.refl w5 _).drewN 1,_,(Below.refl _ _).drew,λ_=>rfl,λ_=>rfl,λh=>by simp at h⟩
  case step=>
   intro aA a w' i o hz hts hI hJ ho hl hdep;have hz:aA.size=18:=hz;have hi:i<18:=(Array.getElem?_eq_some_iff.1 ho).1;try dsimp only at hJ
   obtain⟨hup,wm,hjb,hj1,hj2,hj3⟩:=id hJ;have k1:=(World.cell?_of_block (a:=⟨w.heap.size,1,none⟩) (hup.block w.heap.size (by omega) (by omega))).trans a1;have k2:=(World.cell?_of_block (a:=⟨ap,op,none⟩) (hup.block ap (by omega) (by omega))).trans kp5;have k3:=(World.cell?_of_block (a:=⟨w.heap.size+1,0,none⟩) (hup.block (w.heap.size+1) (by omega) (by omega))).trans b0;have k4:=(World.cell?_of_block (a:=⟨w.heap.size+1,1,none⟩) (hup.block (w.heap.size+1) (by omega) (by omega))).trans b1;have hjx:¬xs.length<=j:=by omega
   rcases aH5 hi with rfl | rfl | rfl | rfl | rfl | rfl | rfl | rfl | rfl | rfl | rfl | rfl | rfl | rfl | rfl | rfl | rfl | rfl
   all_goals obtain rfl:=Option.some.inj (show some _=some o from ho)
   . have e3:(a.tmps[3]?).getD undef=(.pointer (some ⟨w.heap.size,0,none⟩):Value):=gD (hI.fix 3 (by decide));refine aF ho rfl (aE (v:=.pointer (some ⟨w.heap.size,1,none⟩)) (w':=w') (by simp[execOp,e3,go_sem]) ⟨_,rfl,Or.inr rfl,?_⟩);have hK:=hJ;rw[<-aB (l:=aA) (i:=0) (k:=15) (by decide)]at hK;rw[<-aB (l:=aA) (i:=0) (k:=17) (by decide)]at hK;rw[<-aC (a:=a) (d:=15) (s:=30) (v:=.pointer (some ⟨w.heap.size,1,none⟩)) (by decide)]at hK;exact hK
   . have e15:(a.tmps[15]?).getD undef=(.pointer (some ⟨w.heap.size,1,none⟩):Value):=gD ((hI.done 0 15 (by simp) rfl (hdep ⟨0,.data⟩ (by simp) rfl)).resolve_left (by decide));refine aF ho rfl (aE (v:=.slice (some ⟨g1,0,none⟩) xs.length c1) (w':=w') (by simp[execOp,e15,k1,go_sem]) ⟨_,rfl,Or.inr rfl,?_⟩);have hK:=hJ;rw[<-aB (l:=aA) (i:=1) (k:=15) (by decide)]at hK;rw[<-aB (l:=aA) (i:=1) (k:=17) (by decide)]at hK;rw[<-aC (a:=a) (d:=16) (s:=30) (v:=.slice (some ⟨g1,0,none⟩) xs.length c1) (by decide)]at hK;exact hK
   . have e1:(a.tmps[1]?).getD undef=(.slice (some ⟨ap,op,none⟩) (p.length+1) cp:Value):=gD (hI.fix 1 (by decide));refine aF ho rfl (aE (v:=.slice (some ⟨ap,op,none⟩) (p.length+1) cp) (w':=w') (by simp[execOp,e1,go_sem]) ⟨_,rfl,Or.inr rfl,?_⟩);have hK:=hJ;rw[<-aB (l:=aA) (i:=2) (k:=15) (by decide)]at hK;rw[<-aB (l:=aA) (i:=2) (k:=17) (by decide)]at hK;rw[<-aC (a:=a) (d:=17) (s:=30) (v:=.slice (some ⟨ap,op,none⟩) (p.length+1) cp) (by decide)]at hK;exact hK
   . have e17:(a.tmps[17]?).getD undef=(.slice (some ⟨ap,op,none⟩) (p.length+1) cp:Value):=gD ((hI.done 2 17 (by simp) rfl (hdep ⟨2,.data⟩ (by simp) rfl)).resolve_left (by decide));refine aF ho rfl (aE (v:=.pointer (some ⟨ap,op,none⟩)) (w':=w') (by simp[execOp,e17,go_sem]) ⟨_,rfl,Or.inr rfl,?_⟩);have hK:=hJ;rw[<-aB (l:=aA) (i:=3) (k:=15) (by decide)]at hK;rw[<-aB (l:=aA) (i:=3) (k:=17) (by decide)]at hK;rw[<-aC (a:=a) (d:=18) (s:=30) (v:=.pointer (some ⟨ap,op,none⟩)) (by decide)]at hK;exact hK
   . have e18:(a.tmps[18]?).getD undef=(.pointer (some ⟨ap,op,none⟩):Value):=gD ((hI.done 3 18 (by simp) rfl (hdep ⟨3,.data⟩ (by simp) rfl)).resolve_left (by decide));refine aF ho rfl (aE (v:=.int .i64 (j:Int)) (w':=w') (by simp[execOp,e18,k2,go_sem]) ⟨_,rfl,Or.inr rfl,?_⟩);have hK:=hJ;rw[<-aB (l:=aA) (i:=4) (k:=15) (by decide)]at hK;rw[<-aB (l:=aA) (i:=4) (k:=17) (by decide)]at hK;rw[<-aC (a:=a) (d:=19) (s:=30) (v:=.int .i64 (j:Int)) (by decide)]at hK;exact hK
   . have e3:(a.tmps[3]?).getD undef=(.pointer (some ⟨w.heap.size,0,none⟩):Value):=gD (hI.fix 3 (by decide));refine aF ho rfl (aE (v:=.pointer (some ⟨w.heap.size,1,none⟩)) (w':=w') (by simp[execOp,e3,go_sem]) ⟨_,rfl,Or.inr rfl,?_⟩);have hK:=hJ;rw[<-aB (l:=aA) (i:=5) (k:=15) (by decide)]at hK;rw[<-aB (l:=aA) (i:=5) (k:=17) (by decide)]at hK;rw[<-aC (a:=a) (d:=20) (s:=30) (v:=.pointer (some ⟨w.heap.size,1,none⟩)) (by decide)]at hK;exact hK
   . have e20:(a.tmps[20]?).getD undef=(.pointer (some ⟨w.heap.size,1,none⟩):Value):=gD ((hI.done 5 20 (by simp) rfl (hdep ⟨5,.data⟩ (by simp) rfl)).resolve_left (by decide));refine aF ho rfl (aE (v:=.slice (some ⟨g1,0,none⟩) xs.length c1) (w':=w') (by simp[execOp,e20,k1,go_sem]) ⟨_,rfl,Or.inr rfl,?_⟩);have hK:=hJ;rw[<-aB (l:=aA) (i:=6) (k:=15) (by decide)]at hK;rw[<-aB (l:=aA) (i:=6) (k:=17) (by decide)]at hK;rw[<-aC (a:=a) (d:=21) (s:=30) (v:=.slice (some ⟨g1,0,none⟩) xs.length c1) (by decide)]at hK;exact hK
   . have e1:(a.tmps[1]?).getD undef=(.slice (some ⟨ap,op,none⟩) (p.length+1) cp:Value):=gD (hI.fix 1 (by decide));refine aF ho rfl (aE (v:=.slice (some ⟨ap,op,none⟩) (p.length+1) cp) (w':=w') (by simp[execOp,e1,go_sem]) ⟨_,rfl,Or.inr rfl,?_⟩);have hK:=hJ;rw[<-aB (l:=aA) (i:=7) (k:=15) (by decide)]at hK;rw[<-aB (l:=aA) (i:=7) (k:=17) (by decide)]at hK;rw[<-aC (a:=a) (d:=22) (s:=30) (v:=.slice (some ⟨ap,op,none⟩) (p.length+1) cp) (by decide)]at hK;exact hK
   . have e22:(a.tmps[22]?).getD undef=(.slice (some ⟨ap,op,none⟩) (p.length+1) cp:Value):=gD ((hI.done 7 22 (by simp) rfl (hdep ⟨7,.data⟩ (by simp) rfl)).resolve_left (by decide));refine aF ho rfl (aE (v:=.pointer (some ⟨ap,op,none⟩)) (w':=w') (by simp[execOp,e22,go_sem]) ⟨_,rfl,Or.inr rfl,?_⟩);have hK:=hJ;rw[<-aB (l:=aA) (i:=8) (k:=15) (by decide)]at hK;rw[<-aB (l:=aA) (i:=8) (k:=17) (by decide)]at hK;rw[<-aC (a:=a) (d:=23) (s:=30) (v:=.pointer (some ⟨ap,op,none⟩)) (by decide)]at hK;exact hK
   . have e23:(a.tmps[23]?).getD undef=(.pointer (some ⟨ap,op,none⟩):Value):=gD ((hI.done 8 23 (by simp) rfl (hdep ⟨8,.data⟩ (by simp) rfl)).resolve_left (by decide));refine aF ho rfl (aE (v:=.int .i64 (j:Int)) (w':=w') (by simp[execOp,e23,k2,go_sem]) ⟨_,rfl,Or.inr rfl,?_⟩);have hK:=hJ;rw[<-aB (l:=aA) (i:=9) (k:=15) (by decide)]at hK;rw[<-aB (l:=aA) (i:=9) (k:=17) (by decide)]at hK;rw[<-aC (a:=a) (d:=24) (s:=30) (v:=.int .i64 (j:Int)) (by decide)]at hK;exact hK
   . have e21:(a.tmps[21]?).getD undef=(.slice (some ⟨g1,0,none⟩) xs.length c1:Value):=gD ((hI.done 6 21 (by simp) rfl (hdep ⟨6,.data⟩ (by simp) rfl)).resolve_left (by decide));have e24:(a.tmps[24]?).getD undef=(.int .i64 (j:Int):Value):=gD ((hI.done 9 24 (by simp) rfl (hdep ⟨9,.data⟩ (by simp) rfl)).resolve_left (by decide));refine aF ho rfl (aE (v:=.pointer (some ⟨g1,j*2,none⟩)) (w':=w') (by simp[execOp,e21,e24,hjx,go_sem]) ⟨_,rfl,Or.inr rfl,?_⟩);have hK:=hJ;rw[<-aB (l:=aA) (i:=10) (k:=15) (by decide)]at hK;rw[<-aB (l:=aA) (i:=10) (k:=17) (by decide)]at hK;rw[<-aC (a:=a) (d:=25) (s:=30) (v:=.pointer (some ⟨g1,j*2,none⟩)) (by decide)]at hK;exact hK
   . have e25:(a.tmps[25]?).getD undef=(.pointer (some ⟨g1,j*2,none⟩):Value):=gD ((hI.done 10 25 (by simp) rfl (hdep ⟨10,.data⟩ (by simp) rfl)).resolve_left (by decide));have l17:aA.getD 17 false=false:=by
      cases h:aA.getD 17 false with
      | false=>rfl
      | true=>
       have:=hI.cl 17 _ rfl h ⟨11,.phase⟩ (by simp) rfl;rw[show (⟨11,Ground.phase⟩:Edge).on=11 from rfl,hl]at this;cases this
     obtain rfl:=hj2 l17;have m0:=(hjb.cell (p:=⟨g1,j*2,none⟩) hg1).trans q0;have m1:=(hjb.cell (p:=⟨g1,j*2+1,none⟩) hg1).trans q1;refine aF ho rfl (aE (v:=.agg #[.int .i64 f',.slice A' ys.length c']) (w':=w') (by simp[execOp,e25,m0,m1,go_sem]) ⟨_,rfl,Or.inr rfl,?_⟩);have hK:=hJ;rw[<-aB (l:=aA) (i:=11) (k:=15) (by decide),<-aB (l:=aA) (i:=11) (k:=17) (by decide)]at hK;rw[<-aC (a:=a) (d:=26) (s:=30) (v:=.agg #[.int .i64 f',.slice A' ys.length c']) (by decide)]at hK;exact hK
   . have e1:(a.tmps[1]?).getD undef=(.slice (some ⟨ap,op,none⟩) (p.length+1) cp:Value):=gD (hI.fix 1 (by decide));refine aF ho rfl (aE (v:=.slice (some ⟨ap,op,none⟩) (p.length+1) cp) (w':=w') (by simp[execOp,e1,go_sem]) ⟨_,rfl,Or.inr rfl,?_⟩);have hK:=hJ;rw[<-aB (l:=aA) (i:=12) (k:=15) (by decide)]at hK;rw[<-aB (l:=aA) (i:=12) (k:=17) (by decide)]at hK;rw[<-aC (a:=a) (d:=27) (s:=30) (v:=.slice (some ⟨ap,op,none⟩) (p.length+1) cp) (by decide)]at hK;exact hK
   . have e27:(a.tmps[27]?).getD undef=(.slice (some ⟨ap,op,none⟩) (p.length+1) cp:Value):=gD ((hI.done 12 27 (by simp) rfl (hdep ⟨12,.data⟩ (by simp) rfl)).resolve_left (by decide));have hle1:(1:Int)<=(p.length:Int)+1:=(by omega);refine aF ho rfl (aE (v:=.slice tp p.length (cp-1)) (w':=w') (by rw[<-Htp.out];simp[execOp,e27,hle1,go_sem]) ⟨_,rfl,Or.inr rfl,?_⟩);have hK:=hJ;rw[<-aB (l:=aA) (i:=13) (k:=15) (by decide),<-aB (l:=aA) (i:=13) (k:=17) (by decide)]at hK;rw[<-aC (a:=a) (d:=28) (s:=30) (v:=.slice tp p.length (cp-1)) (by decide)]at hK;exact hK
   . have e5:(a.tmps[5]?).getD undef=(.pointer (some ⟨w.heap.size+1,0,none⟩):Value):=gD (hI.fix 5 (by decide));refine aF ho rfl (aE (v:=.agg #[.int .i64 g,.slice Au us.length cu]) (w':=w') (by simp[execOp,e5,k3,k4,go_sem]) ⟨_,rfl,Or.inr rfl,?_⟩);have hK:=hJ;rw[<-aB (l:=aA) (i:=14) (k:=15) (by decide)]at hK;rw[<-aB (l:=aA) (i:=14) (k:=17) (by decide)]at hK;rw[<-aC (a:=a) (d:=29) (s:=30) (v:=.agg #[.int .i64 g,.slice Au us.length cu]) (by decide)]at hK;exact hK
   . have e26:(a.tmps[26]?).getD undef=(.agg #[.int .i64 f',.slice A' ys.length c']:Value):=gD ((hI.done 11 26 (by simp) rfl (hdep ⟨11,.data⟩ (by simp) rfl)).resolve_left (by decide));have e28:(a.tmps[28]?).getD undef=(.slice tp p.length (cp-1):Value):=gD ((hI.done 13 28 (by simp) rfl (hdep ⟨13,.data⟩ (by simp) rfl)).resolve_left (by decide));have e29:(a.tmps[29]?).getD undef=(.agg #[.int .i64 g,.slice Au us.length cu]:Value):=gD ((hI.done 14 29 (by simp) rfl (hdep ⟨14,.data⟩ (by simp) rfl)).resolve_left (by decide));have l17:aA.getD 17 false=false:=hj1 hl;obtain rfl:=hj2 l17;have hr2:eJ (.mk f' ys) p (.mk g us)=r:=(by rw[<-Hxj.out,Hr.out]);have hzw:=HBup.out.size;refine aF ho rfl (aG (f:=94) (args:= #[.agg #[.int .i64 f',.slice A' ys.length c'],.slice tp p.length (cp-1),.agg #[.int .i64 g,.slice Au us.length cu]]) (w':=w') (by simp[execOp,resolve,invoke,e26,e28,e29,go_sem]) (Hih.out f' g ys us _ _ _ (λb=>NbP (λb=>M b/\b<w.heap.size) w3.heap.size b/\b≠g1) B w' (Hr1.out.low hjb) (((HUM.out.low HBup.out).low hjb).more (λb hb _=>⟨.inl hb,by have:=hb.2;omega⟩)) ((HP2.out.low HBup.out hB).low hjb (by omega)) (by have:=hjb.size;omega) hsz3 (by rw[<-Hxj.out];exact Hat.out)) ?_);rw[hr2];rintro e w'' ⟨A2,c2,rfl,hrd,hb⟩;refine⟨_,rfl,_,rfl,Or.inl (by decide),?_,w'',?_,?_,?_,?_⟩
     . exact hup.trans (Upd.low hb (λk=>k=g1)) (λ_ h=>.inl h)
     . exact hjb.trans (hb.mono hjb.size)
     . intro h;rw[aJ (by omega)]at h;cases h
     . intro _;rfl
     intro _;refine⟨A2,c2,aS (by rw[hts];show 30<33;decide),?_,?_⟩
     . exact hrd.more λb hb _=>by
        rcases hb with hb | hb
        . exact .inl hb
        have:=hjb.size;exact .inr (by omega)
     intro h;rw[aB (by decide),l17]at h;cases h
   . have e16:(a.tmps[16]?).getD undef=(.slice (some ⟨g1,0,none⟩) xs.length c1:Value):=gD ((hI.done 1 16 (by simp) rfl (hdep ⟨1,.data⟩ (by simp) rfl)).resolve_left (by decide));have e19:(a.tmps[19]?).getD undef=(.int .i64 (j:Int):Value):=gD ((hI.done 4 19 (by simp) rfl (hdep ⟨4,.data⟩ (by simp) rfl)).resolve_left (by decide));refine aF ho rfl (aE (v:=.pointer (some ⟨g1,j*2,none⟩)) (w':=w') (by simp[execOp,e16,e19,hjx,go_sem]) ⟨_,rfl,Or.inr rfl,?_⟩);have hK:=hJ;rw[<-aB (l:=aA) (i:=16) (k:=15) (by decide)]at hK;rw[<-aB (l:=aA) (i:=16) (k:=17) (by decide)]at hK;rw[<-aC (a:=a) (d:=31) (s:=30) (v:=.pointer (some ⟨g1,j*2,none⟩)) (by decide)]at hK;exact hK
   have e31:(a.tmps[31]?).getD undef=(.pointer (some ⟨g1,j*2,none⟩):Value):=gD ((hI.done 16 31 (by simp) rfl (hdep ⟨16,.data⟩ (by simp) rfl)).resolve_left (by decide));have l30:=hdep ⟨15,.data⟩ (by simp) rfl;obtain rfl:=hj2 hl;have l15:=hdep ⟨15,.data⟩ (by simp) rfl;obtain⟨A2,c2,hx30,hrd,_⟩:=hj3 l15;have e30:(a.tmps[30]?).getD undef=.agg #[.int .i64 r.fn,.slice A2 r.args.length c2]:=by simpa using hx30
   have m0:=(hjb.cell (p:=⟨g1,j*2,none⟩) hg1).trans q0;have m1:=(hjb.cell (p:=⟨g1,j*2+1,none⟩) hg1).trans q1;have m2:∀o,w'.frozen? ⟨g1,o,none⟩=false:=λo=>(hjb.frozen (p:=⟨g1,o,none⟩) hg1).trans (q2 o)
   refine aF ho rfl (bF (w':=(w'.setCell ⟨g1,j*2,none⟩ (.int .i64 r.fn)).setCell ⟨g1,j*2+1,none⟩ (.slice A2 r.args.length c2)) (by simp[execOp,e31,e30,m0,m1,m2,go_sem]) ⟨_,rfl,Or.inr rfl,?_,w',hjb,?_,?_,?_⟩)
   . exact hup.trans ((aM (w:=w') (b:=g1) (o:=j*2) (.int .i64 r.fn)).trans (aM (w:=w'.setCell ⟨g1,j*2,none⟩ (.int .i64 r.fn)) (b:=g1) (o:=j*2+1) (.slice A2 r.args.length c2)) (λ_ h=>.inl h)) (λ_ h=>.inl h)
   . intro h;rw[aB (by decide),l15]at h;cases h
   . intro h;rw[aJ (by omega)]at h;cases h
   intro _;exact⟨A2,c2,hx30,hrd,λ_=>rfl⟩
  case fin=>
   intro aA x wz hz hall hJ;have hz:aA.size=18:=hz;have hall:∀i,i<18->aA.getD i false=true:=hall;simp only[List.size_toArray,List.length_cons,List.length_nil,Nat.reduceAdd,bI];simp
   rw[hall 15 (by omega),hall 17 (by omega)]at hJ;obtain⟨hup,wm,hjb,hj1,hj2,hj3⟩:=hJ;obtain⟨A2,c2,hx30,hrd,hw⟩:=hj3 rfl;have hw:=hw rfl;subst hw;have hzm:=hjb.size;have hrc:RdP wm (λb=>NbP (λb=>M b/\b<w.heap.size) w3.heap.size b/\b≠g1) (.sl 2 (aH r.args)) (.slice A2 r.args.length c2):=hrd.more λb hb _=>by
    rcases hb with hb | hb
    . exact hb
    exact⟨.inr (by omega),by omega⟩
   have hown6:=(Hown5.out.low hjb).set2 (k:=j) (by rw[bG];exact hj) (.leaf (.int .i64 r.fn)) hrc;have he:(aH xs).set j [.leaf (.int .i64 r.fn),.sl 2 (aH r.args)]=aH (xs.set j r):=by
    rw[yL];congr 1
    cases r;rfl
   rw[he]at hown6;have hup6:Upd wm ((wm.setCell ⟨g1,j*2,none⟩ (.int .i64 r.fn)).setCell ⟨g1,j*2+1,none⟩ (.slice A2 r.args.length c2)) (λk=>k=g1):=(aM (w:=wm) (b:=g1) (o:=j*2) (.int .i64 r.fn)).trans (aM (w:=wm.setCell ⟨g1,j*2,none⟩ (.int .i64 r.fn)) (b:=g1) (o:=j*2+1) (.slice A2 r.args.length c2)) (λ_ h=>.inl h);have hz6:=hup6.size;generalize (wm.setCell ⟨g1,j*2,none⟩ (.int .i64 r.fn)).setCell ⟨g1,j*2+1,none⟩ (.slice A2 r.args.length c2)=w6 at hown6 hup6 hz6 hup ⊢;have hbx6:aL w.heap.size 87 (.int .i64 f) (.slice (some ⟨g1,0,none⟩) xs.length c1) w6:=(Hbx5.out.low hjb).upd hup6 (by omega);have hbr6:aL (w.heap.size+1+1) 87 (.int .i64 0) (.slice none 0 0) w6:=(Hbr5.out.low hjb).upd hup6 (by omega);obtain⟨m0,m1,_⟩:=hbx6.cells;obtain⟨n0,n1,n2⟩:=hbr6.cells;obtain⟨s1,s2⟩:=hbr6.set (.int .i64 f) (.slice (some ⟨g1,0,none⟩) xs.length c1);have Hs1:=Lh s1;have Hs2:=Lh s2;have Hown6:=Lh hown6;have Hup6:=Lh hup;clear s1 s2 hown6 hup6 hbx6 hbr6 hup hj1 hj2 hj3 hrd hrc he;go_wp2_with fail;obtain⟨j0,j1,_⟩:=Hs1.out.cells;refine bodyPost_ret (v:=.agg #[.int .i64 f,.slice (some ⟨g1,0,none⟩) xs.length c1]) (by simp[results,Try.results94,go_sem,j0,j1]) rfl ?_;have hzw:=HBup.out.size;have hown7:=Hown6.out.upd Hs2.out (λb hb _=>by rcases hb with hb | hb;have:=hb.2;omega;omega);refine⟨some ⟨g1,0,none⟩,c1,by simp[Tm.fn,Tm.args],?_,?_⟩
   . have:=hown7.rd (by rw[bG,List.length_set];exact hn);refine(by simpa [Tm.args]using this:RdP _ _ (.sl 2 (aH (xs.set j r))) (.slice (some ⟨g1,0,none⟩) xs.length c1)).more ?_ |> λh=>by simpa [Tm.args]using h
     intro b hb _;rcases hb with hb | hb
     . exact .inl hb.1
     exact .inr (by omega)
   exact HBup.out.trans ((Hup6.out.toLow (by have:=HBup.out.size;omega) (by rintro k rfl;omega)).trans (Hs2.out.toLow (by omega) (by rintro k rfl;omega)))
theorem aB2 (g j:Nat):(⟨g,0,none⟩:Addr).add j=⟨g,j,none⟩:=by unfold Addr.add;split <;> simp_all
theorem bC.beyond {w:World} {M:Nat->Prop} {base g n c j size:Nat} {e:TypeId} {trs:List (List Tr)} (h:bC w M base e size (.slice (some ⟨g,0,none⟩) n c) trs)(hj:trs.length*size<=j)(u:Value):
 bC (w.setCell ⟨g,j,none⟩ u) M base e size (.slice (some ⟨g,0,none⟩) n c) trs:=by
 obtain⟨rows,ho,hl,hr,hc⟩:=h;have hn:n=rows.length:=by
  obtain⟨A,c',hv,_⟩:=ho.form;injection hv
 subst hn;have hfl:rows.flatten.length<=j:=by
  have:=ho.1.1;rw[this,hl];exact hj
 have h1:=(ho.1.stored j u).1;rw[List.set_eq_of_length_le hfl]at h1;refine⟨rows,⟨h1,ho.2⟩,hl,hr,λk hk hk2 i hi hi2=>?_⟩;exact(hc k hk hk2 i hi hi2).upd (aM (w:=w) (b:=g) (o:=j) u) λb hb _ e=>hb.2 (by rw[e];rfl)
theorem sG {P:Program} (w:World)(t e ty:TypeId)(z:Value)(ht:P.underlying t=some (.slice e))(hv:∀w,(zeroValue e).run P w=.ok z w)(b o c:Nat)
 (hc:∀j,j<z.cells.size->(w.cell? ⟨b,o+j,none⟩).isSome=true) (hf:∀j,j<z.cells.size->w.frozen? ⟨b,o+j,none⟩=false) (h1:∀u∈z.cells.toList,u.oneCell'=true):
 (Builtin.clear_ #[t] ty #[.slice (some ⟨b,o,none⟩) 1 c]).run P w=.ok (.tuple #[]) (w.setCells b o z.cells.toList):=by
 have hzc:(Builtin.zeroCells z.cells 1).toList=z.cells.toList:=by
  simp[Builtin.zeroCells]
  apply List.ext_getElem
  . simp
  intro i h1 h2;simp at h1
  simp[Nat.mod_eq_of_lt h1,h1]
 have hst:=run_storeCells_cells (P:=P) b o z.cells.toList 0 w (by simpa using hc) (by simpa using hf) h1;simp only[Nat.add_zero]at hst;simp[Builtin.clear_,run_underlying ht,hv,hzc,hst]
theorem aM3 (w:World):(zeroValue 53).run Try.prog w=.ok (.agg #[.bool false,.int .i64 0,.slice none 0 0,.int .i64 0,.slice none 0 0]) w:=by kernel_rfl
def aN2 (M:Nat->Prop)(base g c:Nat)(trs:List (List Tr))(w:World)(e:Ending)(w':World):Prop:=
 e=.returned (.slice (some ⟨g,0,none⟩) trs.length c)/\bC w' M base 53 5 (.slice (some ⟨g,0,none⟩) trs.length c) trs/\Upd w w' (λk=>k=g)
theorem iY {α:Type} (l:List α)(i:Nat):l.eraseIdx i=l.take i++l.drop (i+1):=List.eraseIdx_eq_take_drop_succ l i
theorem bC.take {w:World} {M:Nat->Prop} {base g n c size i:Nat} {e:TypeId} {trs:List (List Tr)} (h:bC w M base e size (.slice (some ⟨g,0,none⟩) n c) trs)(hi:i<=trs.length):
 bC w M base e size (.slice (some ⟨g,0,none⟩) i c) (trs.take i):=by
 obtain⟨rows,ho,hl,hr,hc⟩:=h;have hlen:(rows.take i).length=i:=by simp;omega
 have hflat:(rows.take i).flatten=rows.flatten.take (i*size):=by
  have key:∀(rows:List (List Value)) (i:Nat),(∀r∈rows,r.length=size)->i<=rows.length->(rows.take i).flatten=rows.flatten.take (i*size):=by
   intro rows;induction rows with
   | nil=>intro i _ h;simp
   | cons r rows ih=>
    intro i hr h;cases i with
    | zero=>simp
    | succ i=>
     have h0:=hr r (List.mem_cons_self ..);rw[List.take_succ_cons,List.flatten_cons,List.flatten_cons,ih i (λr h=>hr r (List.mem_cons_of_mem _ h)) (by simpa using h),Nat.succ_mul];rw[List.take_append,h0];rw[List.take_of_length_le (by omega:r.length<=i*size+size)];congr 2
     omega
  exact key rows i ho.2 (by omega)
 refine⟨rows.take i,⟨?_,λr hr'=>ho.2 r (List.mem_of_mem_take hr')⟩,by simp[hl],λr hr'=>hr r (List.mem_of_mem_take hr'),λk hk hk2 j hj hj2=>?_⟩
 . obtain⟨h1,h2⟩:=ho.1;rcases h2 with⟨h',_⟩ | ⟨g',cap,cur,h',hb,hg,hnc,hcm,hcs,htake⟩
   . cases h'
   injection h' with hA hn hcap
   injection hA with hA
   injection hA with hA _ _
   subst hA hcap;rw[hlen];refine⟨?_,.inr ⟨g,c,cur,rfl,hb,hg,by omega,hcm,hcs,?_⟩⟩
   . rw[hflat,List.length_take,h1];exact Nat.min_eq_left (Nat.mul_le_mul_right _ (by omega))
   rw[hflat,<-htake,List.take_take,Nat.min_eq_left (Nat.mul_le_mul_right _ (by omega))]
 simp only[List.getElem_take]at hj hj2 ⊢;exact(hc k (by simp at hk;omega) (by simp at hk2;omega) j hj hj2).more λb hb _=>hb
theorem iZ {α:Type} {size:Nat}:∀(rows:List (List α)) (i:Nat),(∀r∈rows,r.length=size)->i<=rows.length->(rows.drop i).flatten=rows.flatten.drop (i*size)
 | [],i,_,_=>by simp
 | r::rows,0,_,_=>by simp
 | r::rows,i+1,hr,h=>by
  have h0:=hr r (List.mem_cons_self ..);rw[List.drop_succ_cons,iZ rows i (λr h=>hr r (List.mem_cons_of_mem _ h)) (by simpa using h),List.flatten_cons,Nat.succ_mul,List.drop_append,h0];rw[List.drop_of_length_le (by omega:r.length<=i*size+size)];simp
theorem sN {P:Program} {Q:Exit->Act->World->Prop} (w:World) {o:Oper} {a:Act} {K:Act->World->Prop} (s x:Operand)(t:TypeId)
 (ho:o.op=.call {callee:=.builtin .append,args:= #[s,x],argTypes:= #[t,t]}) {e:TypeId} {size bytes:Nat} (hT:SliceTy P t e size bytes)
 {M:Nat->Prop} {base g c i:Nat} {trs:List (List Tr)} (hown:bC w M base e size (.slice (some ⟨g,0,none⟩) trs.length c) trs) (hi:i<trs.length)
 (hs:a.eval s=.slice (some ⟨g,0,none⟩) i c) {ad:Addr} {c2:Nat} (hx:a.eval x=.slice (some ad) (trs.length-(i+1)) c2) (had:i+1<trs.length->ad=⟨g,(i+1)*size,none⟩)
 (hleaf:∀r∈trs,∀t∈r,∀y,t=Tr.leaf y->y.oneCell'=true)
 (h:∀w',bC w' M base e size (.slice (some ⟨g,0,none⟩) (trs.length-1) c) (trs.eraseIdx i)->Upd w w' (λk=>k=g)->K (a.put o.dst (.slice (some ⟨g,0,none⟩) (trs.length-1) c)) w'):o.wp P a w K Q:=by
 obtain⟨ii,z,hii,hz,hsize,hby,hzs⟩:=hT.hi;have htake:=hown.take (i:=i) (by omega);obtain⟨rows,hor,hl,hr,hcon⟩:=hown;obtain⟨A,c',hv,hc,hm⟩:=hor.form;injection hv with _ _ hcc
 subst hcc;have hn1:i+(trs.length-(i+1))=trs.length-1:=by omega
 have hflen:∀L:List (List Value),(∀r∈L,r.length=size)->L.flatten.length=L.length*size:=by
  intro L hL;rw[List.length_flatten];have:L.map List.length=List.replicate L.length size:=by
   rw[List.eq_replicate_iff];exact⟨by simp,λx hx=>by obtain⟨r,hr,rfl⟩:=List.mem_map.1 hx;exact hL r hr⟩
  rw[this,List.sum_replicate_nat]
 have howni:w.ownsRow base e size (.slice (some ⟨g,0,none⟩) i c) i (rows.flatten.take (i*size)):=by
  obtain⟨h1,h2⟩:=hor.1;rcases h2 with⟨h',_⟩ | ⟨g',cap,cur,h',hb,hg,hnc,hcm,hcs,htk⟩
  . cases h'
  injection h' with hA hn hcap
  injection hA with hA
  injection hA with hA _ _
  subst hA hcap;refine⟨?_,.inr ⟨g,c,cur,rfl,hb,hg,by omega,hcm,hcs,?_⟩⟩
  . rw[List.length_take,h1];exact Nat.min_eq_left (Nat.mul_le_mul_right _ (by omega))
  rw[<-htk,List.take_take,Nat.min_eq_left (Nat.mul_le_mul_right _ (by omega))]
 have hcells:∀(j:Nat) (u:Value),rows.flatten[j]? =some u->w.cell? ⟨g,j,none⟩=some u:=by
  intro j u hj;have:=hor.1.cells (g:=g) rfl j u hj;rwa [aB2]at this
 refine wp_append_own_spare w s x t ho base e ii size hT.ht hii hsize g i c (rows.flatten.take (i*size)) hs howni ad (trs.length-(i+1)) c2 (rows.drop (i+1)).flatten hx ?_ ?_ ?_ (by omega) ?_
 . rw[hflen _ (λr hr=>hor.2 r (List.mem_of_mem_drop hr)),List.length_drop,hl]
 . intro j u hj;have hjl:=(List.getElem?_eq_some_iff.1 hj).1;rw[hflen _ (λr hr=>hor.2 r (List.mem_of_mem_drop hr)),List.length_drop,hl]at hjl;have hlt:i+1<trs.length:=by
    rcases Nat.lt_or_ge (i+1) trs.length with h | h
    . exact h
    rw[Nat.sub_eq_zero_of_le h,Nat.zero_mul]at hjl;omega
   rw[had hlt];rw[iZ rows (i+1) hor.2 (by omega),List.getElem?_drop]at hj;have hadd:(⟨g,(i+1)*size,none⟩:Addr).add j=⟨g,(i+1)*size+j,none⟩:=by
    unfold Addr.add;split
    . rename_i h0;rw[h0];rfl
    rfl
   rw[hadd];exact hcells _ u hj
 . intro u hu;rw[iZ rows (i+1) hor.2 (by omega)]at hu;obtain⟨r,hr1,hr2⟩:=List.mem_flatten.1 (List.mem_of_mem_drop hu);obtain⟨k,hk,rfl⟩:=List.getElem_of_mem hr1;obtain⟨j,hj,rfl⟩:=List.getElem_of_mem hr2;have hkt:k<trs.length:=by omega
   have hjt:j<trs[k].length:=by rw[hr _ (List.getElem_mem hkt),<-hor.2 _ (List.getElem_mem hk)];exact hj
   exact(hcon k hkt hk j hjt hj).one λy hy=>hleaf _ (List.getElem_mem hkt) _ (List.getElem_mem hjt) y hy
 intro w' hown' hgr;rw[hn1]at hown' ⊢;have hup:Upd w w' (λk=>k=g):=(Upd.grown hgr).more λk hk=>.inl (Option.some.inj hk).symm
 have hrows:rows.flatten.take (i*size)++(rows.drop (i+1)).flatten=(rows.eraseIdx i).flatten:=by
  rw[iY,List.flatten_append];congr 1
  have key:∀(rows:List (List Value)) (i:Nat),(∀r∈rows,r.length=size)->i<=rows.length->(rows.take i).flatten=rows.flatten.take (i*size):=by
   intro rows;induction rows with
   | nil=>intro i _ h;simp
   | cons r rows ih=>
    intro i hr h;cases i with
    | zero=>simp
    | succ i=>
     have h0:=hr r (List.mem_cons_self ..);rw[List.take_succ_cons,List.flatten_cons,List.flatten_cons,ih i (λr h=>hr r (List.mem_cons_of_mem _ h)) (by simpa using h),Nat.succ_mul];rw[List.take_append,h0];rw[List.take_of_length_le (by omega:r.length<=i*size+size)];congr 2
     omega
  exact(key rows i hor.2 (by omega)).symm
 rw[hrows]at hown';refine h w' ⟨rows.eraseIdx i,⟨?_,λr hr'=>hor.2 r (List.mem_of_mem_eraseIdx hr')⟩,by rw[List.length_eraseIdx_of_lt (by omega),List.length_eraseIdx_of_lt hi,hl],λr hr'=>hr r (List.mem_of_mem_eraseIdx hr'),?_⟩ hup
 . rw[List.length_eraseIdx_of_lt (by omega),hl];exact hown'
 intro k hk hk2 j hj hj2;rw[List.length_eraseIdx_of_lt hi]at hk;have e1:(trs.eraseIdx i)[k]'(by rw[List.length_eraseIdx_of_lt hi];exact hk)=if h:k<i then trs[k]'(by omega)else trs[k+1]'(by omega):=by rw[List.getElem_eraseIdx]
 have e2:(rows.eraseIdx i)[k]'(by rw[List.length_eraseIdx_of_lt (by omega)];omega)=if h:k<i then rows[k]'(by omega)else rows[k+1]'(by omega):=by rw[List.getElem_eraseIdx]
 have fin:∀{t:Tr} {u:Value},RdP w (λb=>NbP M base b/\(Value.slice (some ⟨g,0,none⟩) trs.length c).ownBlock≠some b) t u->RdP w' (λb=>NbP M base b/\(Value.slice (some ⟨g,0,none⟩) (trs.length-1) c).ownBlock≠some b) t u:=λhh=>
  (hh.upd hup λb hb _ e=>hb.2 (by rw[e];rfl)).more λb hb _=>hb
 by_cases hki:k<i
 . simp only[e1,e2,hki,dif_pos]at hj hj2 ⊢;exact fin (hcon k (by omega) (by omega) j hj hj2)
 simp only[e1,e2,hki,dif_neg,not_false_eq_true]at hj hj2 ⊢;exact fin (hcon (k+1) (by omega) (by omega) j hj hj2)
theorem bC.there {w:World} {M:Nat->Prop} {base g n c size j:Nat} {e:TypeId} {trs:List (List Tr)} (h:bC w M base e size (.slice (some ⟨g,0,none⟩) n c) trs)(hj:j<c*size):(w.cell? ⟨g,j,none⟩).isSome=true/\w.frozen? ⟨g,j,none⟩=false:=by
 obtain⟨rows,ho,_⟩:=h;rcases ho.1.2 with⟨h',_⟩ | ⟨g',cap,cur,h',hb,hg,hnc,hcm,hcs,htk⟩
 . cases h'
 injection h' with hA hn hcap
 injection hA with hA
 injection hA with hA _ _
 subst hA hcap;refine⟨?_,frozen_of_row w g j cur e hg⟩;rw[cell_of_row w g j cur e (0,0) hg,Array.getElem?_eq_getElem (by omega)];rfl
theorem bC.beyond5 {w:World} {M:Nat->Prop} {base g n c j:Nat} {e:TypeId} {trs:List (List Tr)} (h:bC w M base e 5 (.slice (some ⟨g,0,none⟩) n c) trs)(hj:trs.length*5<=j)(a0 a1 a2 a3 a4:Value):
 bC (w.setCells g j [a0,a1,a2,a3,a4]) M base e 5 (.slice (some ⟨g,0,none⟩) n c) trs/\Upd w (w.setCells g j [a0,a1,a2,a3,a4]) (λk=>k=g):=by
 have h1:=h.beyond hj a0;have h2:=h1.beyond (j:=j+1) (by omega) a1;have h3:=h2.beyond (j:=j+1+1) (by omega) a2;have h4:=h3.beyond (j:=j+1+1+1) (by omega) a3;have h5:=h4.beyond (j:=j+1+1+1+1) (by omega) a4;refine⟨h5,?_⟩;have u1:=aM (w:=w) (b:=g) (o:=j) a0;have u2:=cC u1 (aM (o:=j+1) a1);have u3:=cC u2 (aM (o:=j+1+1) a2);have u4:=cC u3 (aM (o:=j+1+1+1) a3);exact cC u4 (aM (o:=j+1+1+1+1) a4)
def aP8 (M:Nat->Prop)(base g c i:Nat)(trs:List (List Tr))(W:World)(l:Bool)(w:World):Prop:=
 Upd W w (λk=>k=g)/\(l=false->bC w M base 53 5 (.slice (some ⟨g,0,none⟩) trs.length c) trs)/\(l=true->bC w M base 53 5 (.slice (some ⟨g,0,none⟩) (trs.length-1) c) (trs.eraseIdx i))
theorem pY (M:Nat->Prop)(base g c iq:Nat)(trs:List (List Tr))(w:World)(ho:bC w M base 53 5 (.slice (some ⟨g,0,none⟩) trs.length c) trs)(hi:iq<trs.length)(hn:trs.length<=1000000000)
 (hleaf:∀r∈trs,∀t∈r,∀y,t=Tr.leaf y->y.oneCell'=true):
 Calls Try.prog 84 #[.slice (some ⟨g,0,none⟩) trs.length c,.int .i64 iq,.int .i64 ((iq:Int)+1)] w (aN2 M base g c (trs.eraseIdx iq) w):=by
 obtain⟨A,c',hv,hc,hm⟩:=ho.form;injection hv with hA0 hn0 hcc
 subst hcc;clear hA0 hn0;unfold maxLen at hm;have q1:((iq:Int)==(iq:Int)+1)=false:=by rw[beq_eq_false_iff_ne];omega
 have Ho:=Lh ho;clear ho;have hi0:=hi;obtain⟨n,hnn⟩:∃n,trs.length=n:=⟨_,rfl⟩;have HN:=Lh hnn;rw[hnn]at hi hn hc hi0 ⊢;clear hnn;go_enter Try.func84,Try.ntmps84;go_upto_region 5 with fail
 obtain⟨ad,had⟩:∃ad,(if c=iq+1 then(⟨g,0,none⟩:Addr)else⟨g,(iq+1)*5,none⟩)=ad:=⟨_,rfl⟩;have Had:=Lh had;clear had;refine eO (vals:=λk=>match k with | 0=>(.slice (some ⟨g,0,none⟩) n c:Value) | 1=>(.int .i64 (iq:Int):Value) | 2=>(.slice (some ⟨g,0,none⟩) iq c:Value) | 3=>(.slice (some ⟨g,0,none⟩) n c:Value) | 4=>(.int .i64 ((iq:Int)+1):Value) | 5=>(.slice (some ad) (n-(iq+1)) (c-(iq+1)):Value) | 6=>(.slice (some ⟨g,0,none⟩) (n-1) c:Value) | 7=>(.slice (some ⟨g,0,none⟩) (n-1) c:Value) | _=>undef) (D:=λk=>match k with | 0=>some 20 | 1=>some 21 | 2=>some 22 | 3=>some 23 | 4=>some 24 | 5=>some 25 | 6=>some 26 | 7=>some 0 | _=>none) (J:=λaA w'=>aP8 M base g c iq trs w (aA.getD 6 false) w') (by kernel_rfl) ?hs ?hd ?h0 ?step ?fin
 case hs=>
  intro i o ho;have hi:i<8:=(Array.getElem?_eq_some_iff.1 ho).1;rcases lt8 hi with rfl | rfl | rfl | rfl | rfl | rfl | rfl | rfl
  all_goals obtain rfl:=Option.some.inj (show some _=some o from ho)
  all_goals exact⟨by simp[Region.binds],rfl,λs hs=>by first | (cases hs;done) | (obtain rfl:=Option.some.inj hs;show _<33;decide)⟩
 case hd=>
  intro k k' s hk hk' h h';have hk:k<8:=hk;have hk':k'<8:=hk';refine dL (D:=[some 20,some 21,some 22,some 23,some 24,some 25,some 26,some 0]) (by decide) (k:=k) (k':=k') (s:=s) ?_ ?_
  . rcases lt8 hk with rfl | rfl | rfl | rfl | rfl | rfl | rfl | rfl
    all_goals exact congrArg some h
  rcases lt8 hk' with rfl | rfl | rfl | rfl | rfl | rfl | rfl | rfl
  all_goals exact congrArg some h'
 case h0=>
  exact⟨(Upd.refl w _).drewN 1,λ_=>Ho.out.low (Below.refl _ _).drew,λh=>by simp at h⟩
 case step=>
  intro aA a w' i o hz hI hJ ho hl hdep;have hz:aA.size=8:=hz;have hi:i<8:=(Array.getElem?_eq_some_iff.1 ho).1;obtain⟨hj1,hj2,hj3⟩:=id hJ;have hle:¬c<iq:=by omega
  have hle2:(0:Int)<=(iq:Int)+1/\(iq:Int)+1<=(n:Int):=by omega
  have hads:(if c=iq+1 then some (⟨g,0,none⟩:Addr)else some ⟨g,(iq+1)*5,none⟩)=some ad:=by rw[<-Had.out];split <;> rfl
  rcases lt8 hi with rfl | rfl | rfl | rfl | rfl | rfl | rfl | rfl
  all_goals obtain rfl:=Option.some.inj (show some _=some o from ho)
  . have e0:(a.tmps[0]?).getD undef=(.slice (some ⟨g,0,none⟩) n c:Value):=gD (hI.before (k:=7) (s:=0) rfl rfl ⟨⟨0,.phase⟩,by simp,rfl,rfl⟩ hl);have hK:=hJ;rw[<-aB (l:=aA) (i:=0) (k:=6) (by decide)]at hK;exact aF ho rfl (aE (v:=.slice (some ⟨g,0,none⟩) n c) (w':=w') (by simp[execOp,e0,go_sem]) ⟨rfl,hK⟩)
  . have e1:(a.tmps[1]?).getD undef=(.int .i64 (iq:Int):Value):=gD (hI.fix 1 (by decide));have hK:=hJ;rw[<-aB (l:=aA) (i:=1) (k:=6) (by decide)]at hK;exact aF ho rfl (aE (v:=.int .i64 (iq:Int)) (w':=w') (by simp[execOp,e1,go_sem]) ⟨rfl,hK⟩)
  . have e20:(a.tmps[20]?).getD undef=(.slice (some ⟨g,0,none⟩) n c:Value):=gD (hI.done 0 20 (by simp) rfl (hdep ⟨0,.data⟩ (by simp) rfl));have e21:(a.tmps[21]?).getD undef=(.int .i64 (iq:Int):Value):=gD (hI.done 1 21 (by simp) rfl (hdep ⟨1,.data⟩ (by simp) rfl));have hK:=hJ;rw[<-aB (l:=aA) (i:=2) (k:=6) (by decide)]at hK;exact aF ho rfl (aE (v:=.slice (some ⟨g,0,none⟩) iq c) (w':=w') (by simp[execOp,e20,e21,hle,go_sem]) ⟨rfl,hK⟩)
  . have e0:(a.tmps[0]?).getD undef=(.slice (some ⟨g,0,none⟩) n c:Value):=gD (hI.before (k:=7) (s:=0) rfl rfl ⟨⟨3,.phase⟩,by simp,rfl,rfl⟩ hl);have hK:=hJ;rw[<-aB (l:=aA) (i:=3) (k:=6) (by decide)]at hK;exact aF ho rfl (aE (v:=.slice (some ⟨g,0,none⟩) n c) (w':=w') (by simp[execOp,e0,go_sem]) ⟨rfl,hK⟩)
  . have e2:(a.tmps[2]?).getD undef=(.int .i64 ((iq:Int)+1):Value):=gD (hI.fix 2 (by decide));have hK:=hJ;rw[<-aB (l:=aA) (i:=4) (k:=6) (by decide)]at hK;exact aF ho rfl (aE (v:=.int .i64 ((iq:Int)+1)) (w':=w') (by simp[execOp,e2,go_sem]) ⟨rfl,hK⟩)
  . have e23:(a.tmps[23]?).getD undef=(.slice (some ⟨g,0,none⟩) n c:Value):=gD (hI.done 3 23 (by simp) rfl (hdep ⟨3,.data⟩ (by simp) rfl));have e24:(a.tmps[24]?).getD undef=(.int .i64 ((iq:Int)+1):Value):=gD (hI.done 4 24 (by simp) rfl (hdep ⟨4,.data⟩ (by simp) rfl));have hK:=hJ;rw[<-aB (l:=aA) (i:=5) (k:=6) (by decide)]at hK;exact aF ho rfl (aE (v:=.slice (some ad) (n-(iq+1)) (c-(iq+1))) (w':=w') (by simp[execOp,e23,e24,hle2,hads,go_sem]) ⟨rfl,hK⟩)
  . have e220:a.tmps.getD 22 undef=(.slice (some ⟨g,0,none⟩) iq c:Value):=hI.done 2 22 (by simp) rfl (hdep ⟨2,.data⟩ (by simp) rfl);have e22:=gD e220;have e250:a.tmps.getD 25 undef=(.slice (some ad) (n-(iq+1)) (c-(iq+1)):Value):=hI.done 5 25 (by simp) rfl (hdep ⟨5,.data⟩ (by simp) rfl);have e25:=gD e250;have hto:(a.eval (.tmp 25))=.slice (some ad) (trs.length-(iq+1)) (c-(iq+1)):=(by rw[HN.out];exact e250);have hsl:(a.eval (.tmp 22))=.slice (some ⟨g,0,none⟩) iq c:=e220;refine aF ho rfl (sN w' (.tmp 22) (.tmp 25) 38 rfl nW (hj2 hl) (by rw[HN.out];exact hi0) hsl hto ?_ hleaf ?_)
    . intro h;rw[<-Had.out,if_neg (by rw[HN.out]at h;omega)]
    intro w5 hown5 hup5;rw[HN.out]at hown5 ⊢;exact⟨rfl,cC hj1 hup5,λh=>(by rw[aJ (by omega)]at h;cases h),λ_=>by rw[HN.out];exact hown5⟩
  have e26:(a.tmps[26]?).getD undef=(.slice (some ⟨g,0,none⟩) (n-1) c:Value):=gD (hI.done 6 26 (by simp) rfl (hdep ⟨6,.data⟩ (by simp) rfl));have hK:=hJ;rw[<-aB (l:=aA) (i:=7) (k:=6) (by decide)]at hK;exact aF ho rfl (aE (v:=.slice (some ⟨g,0,none⟩) (n-1) c) (w':=w') (by simp[execOp,e26,go_sem]) ⟨rfl,hK⟩)
 case fin=>
  intro aA wz hz hall hJ;have hz:aA.size=8:=hz;have hall:∀i,i<8->aA.getD i false=true:=hall;simp only[List.size_toArray,List.length_cons,List.length_nil,Nat.reduceAdd,bI];simp
  rw[hall 6 (by omega)]at hJ;obtain⟨hj1,_,hj3⟩:=hJ;have hown:=hj3 rfl;have hlen:(trs.eraseIdx iq).length=n-1:=by rw[List.length_eraseIdx_of_lt (by rw[HN.out];exact hi0),HN.out]
  rw[HN.out]at hown;have hclr:∀ty,(Builtin.clear_ #[38] ty #[.slice (some ⟨g,(n-1)*5,none⟩) 1 (c-(n-1))]).run Try.prog wz=.ok (.tuple #[]) (wz.setCells g ((n-1)*5) [.bool false,.int .i64 0,.slice none 0 0,.int .i64 0,.slice none 0 0]):=λty=>by
   have:=sG (P:=Try.prog) wz 38 53 ty _ nW.ht (λw=>aM3 w) g ((n-1)*5) (c-(n-1)) (λj hj=>(hown.there (by have hj:j<5:=hj;omega)).1) (λj hj=>(hown.there (by have hj:j<5:=hj;omega)).2) (by simp[Value.cells,Value.oneCell']);exact this
  obtain⟨hb1,hb2⟩:=hown.beyond5 (j:=(n-1)*5) (by rw[hlen];exact Nat.le_refl _) (.bool false) (.int .i64 0) (.slice none 0 0) (.int .i64 0) (.slice none 0 0);have Hb1:=Lh hb1;have Hb2:=Lh (cC hj1 hb2);have Hlen:=Lh hlen;have hcn:¬c=n-1:=by omega
  have hnn1:n-(n-1)=1:=by omega
  have hnc1:¬(n:Int)<((n-1:Nat):Int):=by omega
  clear hb1 hb2 hj1 hj3 hown hlen hall;go_wp2_with fail;go_ret;exact⟨by rw[Hlen.out];rfl,by rw[Hlen.out];exact Hb1.out,Hb2.out⟩
theorem bC.some_ {w:World} {M:Nat->Prop} {base size:Nat} {e:TypeId} {v:Value} {trs:List (List Tr)} (h:bC w M base e size v trs)(hn:0<trs.length):∃g c,v=.slice (some ⟨g,0,none⟩) trs.length c/\base<=g/\g<w.heap.size:=by
 obtain⟨rows,ho,hl,_⟩:=h;rcases ho.1.2 with⟨_,h0⟩ | ⟨g,cap,cur,hv,hb,hg,_⟩
 . omega
 exact⟨g,cap,by rw[hv,hl],hb,eA hg⟩
theorem cT (c:Cl)(i:Nat)(v:Value)(M:Nat->Prop)(w:World)(hr:RdP w M (aT c) v)(hi:i<c.length)(hn:c.length<=1000000000):
 Calls Try.prog 64 #[v,.int .i64 (i:Nat)] w (yE M 53 5 ((c.eraseIdx i).map aQ) w):=by
 have he:(c.eraseIdx i).map aQ=(c.map aQ).eraseIdx i:=by
  rw[iY,iY,List.map_append,List.map_take,List.map_drop]
 rw[he];have HR:=Lh hr;have hlm:(c.map aQ).length=c.length:=List.length_map _;have hdel:∀(w1:World) (g c1:Nat),bC w1 M w.heap.size 53 5 (.slice (some ⟨g,0,none⟩) c.length c1) (c.map aQ)->Calls Try.prog 84 #[.slice (some ⟨g,0,none⟩) c.length c1,.int .i64 i,.int .i64 ((i:Int)+1)] w1 (aN2 M w.heap.size g c1 ((c.map aQ).eraseIdx i) w1):=by
  intro w1 g c1 h;have:=pY M w.heap.size g c1 i (c.map aQ) w1 (by rw[hlm];exact h) (by rw[hlm];exact hi) (by rw[hlm];exact hn) uY;rw[hlm]at this;exact this
 have Hdel:=Lh hdel;generalize (c.map aQ).eraseIdx i=res at*;clear hr he hdel;go_enter Try.func64,Try.ntmps64;go_wp2_with (first
  | (
   go_at_call 85
   refine(pV c _ M w HR.out hn).mono ?_;rintro e w1 ⟨v1,rfl,hown,hb⟩;obtain⟨g,c1,hv1,hg1,hg2⟩:=hown.some_ (by rw[hlm];omega);rw[hlm]at hv1;subst hv1;have Hown:=Lh hown;have Hb:=Lh hb;clear hown hb)
  | (
   go_at_call 84
   refine(Hdel.out w1 g c1 Hown.out).mono ?_;rintro e w2 ⟨rfl,hown2,hup⟩;have Hown2:=Lh hown2;have Hup:=Lh hup;clear hown2 hup))
 go_ret;exact⟨_,rfl,Hown2.out,Hb.out.trans (Hup.out.toLow (by have:=Hb.out.size;omega) (by rintro k rfl;omega))⟩
def jT (a b:Lt):Bool:=decide (a.neg=b.neg)&&((dZ a.l b.l&&dZ a.r b.r) || (dZ a.l b.r&&dZ a.r b.l))
theorem aB3 (n1 n2:Bool)(f1 g1 f2 g2:Int)(xs1 ys1 xs2 ys2:List Tm)(A1 A2 A3 A4:Option Addr)(c1 c2 c3 c4:Nat)(B:Nat)(w:World)
 (h1:Rd w B (.sl 2 (aH xs1)) (.slice A1 xs1.length c1)) (h2:Rd w B (.sl 2 (aH ys1)) (.slice A2 ys1.length c2)) (h3:Rd w B (.sl 2 (aH xs2)) (.slice A3 xs2.length c3)) (h4:Rd w B (.sl 2 (aH ys2)) (.slice A4 ys2.length c4)) (hB:B<=w.heap.size):
 Calls Try.prog 67 #[.agg #[.bool n1,.int .i64 f1,.slice A1 xs1.length c1,.int .i64 g1,.slice A2 ys1.length c2],.agg #[.bool n2,.int .i64 f2,.slice A3 xs2.length c3,.int .i64 g2,.slice A4 ys2.length c4]] w
  (aP (jT ⟨n1,.mk f1 xs1,.mk g1 ys1⟩ ⟨n2,.mk f2 xs2,.mk g2 ys2⟩) w):=by
 obtain⟨r,hr⟩:∃r,jT ⟨n1,.mk f1 xs1,.mk g1 ys1⟩ ⟨n2,.mk f2 xs2,.mk g2 ys2⟩=r:=⟨_,rfl⟩;rw[hr];unfold jT at hr;simp only at hr;have HR:=Lh hr;have H1:=Lh h1;have H2:=Lh h2;have H3:=Lh h3;have H4:=Lh h4;clear hr h1 h2 h3 h4;obtain⟨hx1,hx2,hB3,hz3⟩:=aO w (.cells #[.bool n1,.int .i64 f1,.slice A1 xs1.length c1,.int .i64 g1,.slice A2 ys1.length c2] 53) (.cells #[.bool n2,.int .i64 f2,.slice A3 xs2.length c3,.int .i64 g2,.slice A4 ys2.length c4] 53);go_enter Try.func67,Try.ntmps67;go_upto_region 1 with fail
 generalize (w.alloc (.cells #[.bool n1,.int .i64 f1,.slice A1 xs1.length c1,.int .i64 g1,.slice A2 ys1.length c2] 53)).alloc (.cells #[.bool n2,.int .i64 f2,.slice A3 xs2.length c3,.int .i64 g2,.slice A4 ys2.length c4] 53)=w3 at hx1 hx2 hB3 hz3 ⊢;have Hx1:=Lh hx1;have Hx2:=Lh hx2;have HB3:=Lh hB3;clear hx1 hx2 hB3;refine dC (sp:=λk=>k==8 || k==9 || k==10 || k==11) (vals:=λx k=>match k with | 0=>(.pointer (some ⟨w.heap.size,1,none⟩):Value) | 1=>(.agg #[.int .i64 f1,.slice A1 xs1.length c1]:Value) | 2=>(.pointer (some ⟨w.heap.size,3,none⟩):Value) | 3=>(.agg #[.int .i64 g1,.slice A2 ys1.length c2]:Value) | 4=>(.pointer (some ⟨w.heap.size+1,1,none⟩):Value) | 5=>(.agg #[.int .i64 f2,.slice A3 xs2.length c3]:Value) | 6=>(.pointer (some ⟨w.heap.size+1,3,none⟩):Value) | 7=>(.agg #[.int .i64 g2,.slice A4 ys2.length c4]:Value) | 8=>(x 5:Value) | 9=>(x 6:Value) | 10=>(x 7:Value) | 11=>(x 8:Value) | 12=>(undef:Value) | 13=>(undef:Value) | 14=>(undef:Value) | 15=>(undef:Value) | _=>undef) (D:=λk=>match k with | 0=>some 9 | 1=>some 10 | 2=>some 11 | 3=>some 12 | 4=>some 13 | 5=>some 14 | 6=>some 15 | 7=>some 16 | 8=>some 5 | 9=>some 6 | 10=>some 7 | 11=>some 8 | _=>none) (J:=λaA x w'=>cP w3 87 (.int .i64 0) (.slice none 0 0) [⟨aA.getD 8 false,aA.getD 12 false,x 5,.int .i64 f1,.slice A1 xs1.length c1⟩,⟨aA.getD 9 false,aA.getD 13 false,x 6,.int .i64 g1,.slice A2 ys1.length c2⟩,⟨aA.getD 10 false,aA.getD 14 false,x 7,.int .i64 f2,.slice A3 xs2.length c3⟩,⟨aA.getD 11 false,aA.getD 15 false,x 8,.int .i64 g2,.slice A4 ys2.length c4⟩] w') (by kernel_rfl) ?hs ?hd ?hsp ?h0 ?step ?fin
 case hs=>
  intro i o ho;have hi:i<16:=(Array.getElem?_eq_some_iff.1 ho).1;rcases lT hi with rfl | rfl | rfl | rfl | rfl | rfl | rfl | rfl | rfl | rfl | rfl | rfl | rfl | rfl | rfl | rfl
  all_goals obtain rfl:=Option.some.inj (show some _=some o from ho)
  all_goals exact⟨by simp[Region.binds],rfl,λs hs=>by first | (cases hs;done) | (obtain rfl:=Option.some.inj hs;show _<42;decide)⟩
 case hd=>
  intro k k' s hk hk' h h';have hk:k<16:=hk;have hk':k'<16:=hk';refine dL (D:=[some 9,some 10,some 11,some 12,some 13,some 14,some 15,some 16,some 5,some 6,some 7,some 8,none,none,none,none]) (by decide) (k:=k) (k':=k') (s:=s) ?_ ?_
  . rcases lT hk with rfl | rfl | rfl | rfl | rfl | rfl | rfl | rfl | rfl | rfl | rfl | rfl | rfl | rfl | rfl | rfl
    all_goals exact congrArg some h
  rcases lT hk' with rfl | rfl | rfl | rfl | rfl | rfl | rfl | rfl | rfl | rfl | rfl | rfl | rfl | rfl | rfl | rfl
  all_goals exact congrArg some h'
 case hsp=>
  intro k s hk hks x;have hk:k<16:=hk;rcases lT hk with rfl | rfl | rfl | rfl | rfl | rfl | rfl | rfl | rfl | rfl | rfl | rfl | rfl | rfl | rfl | rfl
  all_goals first | rfl | (obtain rfl:=Option.some.inj hks;rfl) | cases hks
 case h0=>
  exact cP.start ((Below.refl _ _).drew) (by simp)
 case step=>
  intro aA a w' i o hz hts hI hJ ho hl hdep;have hz:aA.size=16:=hz;have hi:i<16:=(Array.getElem?_eq_some_iff.1 ho).1;try dsimp only at hJ
  have kk:=λo=>cell_of_row w' w.heap.size o _ _ _ ((hJ.1.block w.heap.size (by omega)).trans Hx1.out)
  have ll:=λo=>cell_of_row w' (w.heap.size+1) o _ _ _ ((hJ.1.block (w.heap.size+1) (by omega)).trans Hx2.out)
  have k1:=kk 1;have k2:=kk 2;have k3:=kk 3;have k4:=kk 4;have l1:=ll 1;have l2:=ll 2;have l3:=ll 3;have l4:=ll 4;simp only[List.getElem?_toArray,List.getElem?_cons_zero,List.getElem?_cons_succ]at k1 k2 k3 k4 l1 l2 l3 l4;rcases lT hi with rfl | rfl | rfl | rfl | rfl | rfl | rfl | rfl | rfl | rfl | rfl | rfl | rfl | rfl | rfl | rfl
  all_goals obtain rfl:=Option.some.inj (show some _=some o from ho)
  . have e2:(a.tmps[2]?).getD undef=(.pointer (some ⟨w.heap.size,0,none⟩):Value):=gD (hI.fix 2 (by decide));refine aF ho rfl (aE (v:=.pointer (some ⟨w.heap.size,1,none⟩)) (w':=w') (by simp[execOp,e2,go_sem]) ⟨_,rfl,Or.inr rfl,?_⟩);have hK:=hJ;rw[<-aB (l:=aA) (i:=0) (k:=8) (by decide)]at hK;rw[<-aB (l:=aA) (i:=0) (k:=9) (by decide)]at hK;rw[<-aB (l:=aA) (i:=0) (k:=10) (by decide)]at hK;rw[<-aB (l:=aA) (i:=0) (k:=11) (by decide)]at hK;rw[<-aB (l:=aA) (i:=0) (k:=12) (by decide)]at hK;rw[<-aB (l:=aA) (i:=0) (k:=13) (by decide)]at hK;rw[<-aB (l:=aA) (i:=0) (k:=14) (by decide)]at hK;rw[<-aB (l:=aA) (i:=0) (k:=15) (by decide)]at hK;rw[<-aC (a:=a) (d:=9) (s:=5) (v:=.pointer (some ⟨w.heap.size,1,none⟩)) (by decide)]at hK;rw[<-aC (a:=a) (d:=9) (s:=6) (v:=.pointer (some ⟨w.heap.size,1,none⟩)) (by decide)]at hK;rw[<-aC (a:=a) (d:=9) (s:=7) (v:=.pointer (some ⟨w.heap.size,1,none⟩)) (by decide)]at hK;rw[<-aC (a:=a) (d:=9) (s:=8) (v:=.pointer (some ⟨w.heap.size,1,none⟩)) (by decide)]at hK;exact hK
  . have e9:(a.tmps[9]?).getD undef=(.pointer (some ⟨w.heap.size,1,none⟩):Value):=gD ((hI.done 0 9 (by simp) rfl (hdep ⟨0,.data⟩ (by simp) rfl)).resolve_left (by decide));refine aF ho rfl (aE (v:=.agg #[.int .i64 f1,.slice A1 xs1.length c1]) (w':=w') (by simp[execOp,e9,k1,k2,go_sem]) ⟨_,rfl,Or.inr rfl,?_⟩);have hK:=hJ;rw[<-aB (l:=aA) (i:=1) (k:=8) (by decide)]at hK;rw[<-aB (l:=aA) (i:=1) (k:=9) (by decide)]at hK;rw[<-aB (l:=aA) (i:=1) (k:=10) (by decide)]at hK;rw[<-aB (l:=aA) (i:=1) (k:=11) (by decide)]at hK;rw[<-aB (l:=aA) (i:=1) (k:=12) (by decide)]at hK;rw[<-aB (l:=aA) (i:=1) (k:=13) (by decide)]at hK;rw[<-aB (l:=aA) (i:=1) (k:=14) (by decide)]at hK;rw[<-aB (l:=aA) (i:=1) (k:=15) (by decide)]at hK;rw[<-aC (a:=a) (d:=10) (s:=5) (v:=.agg #[.int .i64 f1,.slice A1 xs1.length c1]) (by decide)]at hK;rw[<-aC (a:=a) (d:=10) (s:=6) (v:=.agg #[.int .i64 f1,.slice A1 xs1.length c1]) (by decide)]at hK;rw[<-aC (a:=a) (d:=10) (s:=7) (v:=.agg #[.int .i64 f1,.slice A1 xs1.length c1]) (by decide)]at hK;rw[<-aC (a:=a) (d:=10) (s:=8) (v:=.agg #[.int .i64 f1,.slice A1 xs1.length c1]) (by decide)]at hK;exact hK
  . have e2:(a.tmps[2]?).getD undef=(.pointer (some ⟨w.heap.size,0,none⟩):Value):=gD (hI.fix 2 (by decide));refine aF ho rfl (aE (v:=.pointer (some ⟨w.heap.size,3,none⟩)) (w':=w') (by simp[execOp,e2,go_sem]) ⟨_,rfl,Or.inr rfl,?_⟩);have hK:=hJ;rw[<-aB (l:=aA) (i:=2) (k:=8) (by decide)]at hK;rw[<-aB (l:=aA) (i:=2) (k:=9) (by decide)]at hK;rw[<-aB (l:=aA) (i:=2) (k:=10) (by decide)]at hK;rw[<-aB (l:=aA) (i:=2) (k:=11) (by decide)]at hK;rw[<-aB (l:=aA) (i:=2) (k:=12) (by decide)]at hK;rw[<-aB (l:=aA) (i:=2) (k:=13) (by decide)]at hK;rw[<-aB (l:=aA) (i:=2) (k:=14) (by decide)]at hK;rw[<-aB (l:=aA) (i:=2) (k:=15) (by decide)]at hK;rw[<-aC (a:=a) (d:=11) (s:=5) (v:=.pointer (some ⟨w.heap.size,3,none⟩)) (by decide)]at hK;rw[<-aC (a:=a) (d:=11) (s:=6) (v:=.pointer (some ⟨w.heap.size,3,none⟩)) (by decide)]at hK;rw[<-aC (a:=a) (d:=11) (s:=7) (v:=.pointer (some ⟨w.heap.size,3,none⟩)) (by decide)]at hK;rw[<-aC (a:=a) (d:=11) (s:=8) (v:=.pointer (some ⟨w.heap.size,3,none⟩)) (by decide)]at hK;exact hK
  . have e11:(a.tmps[11]?).getD undef=(.pointer (some ⟨w.heap.size,3,none⟩):Value):=gD ((hI.done 2 11 (by simp) rfl (hdep ⟨2,.data⟩ (by simp) rfl)).resolve_left (by decide));refine aF ho rfl (aE (v:=.agg #[.int .i64 g1,.slice A2 ys1.length c2]) (w':=w') (by simp[execOp,e11,k3,k4,go_sem]) ⟨_,rfl,Or.inr rfl,?_⟩);have hK:=hJ;rw[<-aB (l:=aA) (i:=3) (k:=8) (by decide)]at hK;rw[<-aB (l:=aA) (i:=3) (k:=9) (by decide)]at hK;rw[<-aB (l:=aA) (i:=3) (k:=10) (by decide)]at hK;rw[<-aB (l:=aA) (i:=3) (k:=11) (by decide)]at hK;rw[<-aB (l:=aA) (i:=3) (k:=12) (by decide)]at hK;rw[<-aB (l:=aA) (i:=3) (k:=13) (by decide)]at hK;rw[<-aB (l:=aA) (i:=3) (k:=14) (by decide)]at hK;rw[<-aB (l:=aA) (i:=3) (k:=15) (by decide)]at hK;rw[<-aC (a:=a) (d:=12) (s:=5) (v:=.agg #[.int .i64 g1,.slice A2 ys1.length c2]) (by decide)]at hK;rw[<-aC (a:=a) (d:=12) (s:=6) (v:=.agg #[.int .i64 g1,.slice A2 ys1.length c2]) (by decide)]at hK;rw[<-aC (a:=a) (d:=12) (s:=7) (v:=.agg #[.int .i64 g1,.slice A2 ys1.length c2]) (by decide)]at hK;rw[<-aC (a:=a) (d:=12) (s:=8) (v:=.agg #[.int .i64 g1,.slice A2 ys1.length c2]) (by decide)]at hK;exact hK
  . have e3:(a.tmps[3]?).getD undef=(.pointer (some ⟨w.heap.size+1,0,none⟩):Value):=gD (hI.fix 3 (by decide));refine aF ho rfl (aE (v:=.pointer (some ⟨w.heap.size+1,1,none⟩)) (w':=w') (by simp[execOp,e3,go_sem]) ⟨_,rfl,Or.inr rfl,?_⟩);have hK:=hJ;rw[<-aB (l:=aA) (i:=4) (k:=8) (by decide)]at hK;rw[<-aB (l:=aA) (i:=4) (k:=9) (by decide)]at hK;rw[<-aB (l:=aA) (i:=4) (k:=10) (by decide)]at hK;rw[<-aB (l:=aA) (i:=4) (k:=11) (by decide)]at hK;rw[<-aB (l:=aA) (i:=4) (k:=12) (by decide)]at hK;rw[<-aB (l:=aA) (i:=4) (k:=13) (by decide)]at hK;rw[<-aB (l:=aA) (i:=4) (k:=14) (by decide)]at hK;rw[<-aB (l:=aA) (i:=4) (k:=15) (by decide)]at hK;rw[<-aC (a:=a) (d:=13) (s:=5) (v:=.pointer (some ⟨w.heap.size+1,1,none⟩)) (by decide)]at hK;rw[<-aC (a:=a) (d:=13) (s:=6) (v:=.pointer (some ⟨w.heap.size+1,1,none⟩)) (by decide)]at hK;rw[<-aC (a:=a) (d:=13) (s:=7) (v:=.pointer (some ⟨w.heap.size+1,1,none⟩)) (by decide)]at hK;rw[<-aC (a:=a) (d:=13) (s:=8) (v:=.pointer (some ⟨w.heap.size+1,1,none⟩)) (by decide)]at hK;exact hK
  . have e13:(a.tmps[13]?).getD undef=(.pointer (some ⟨w.heap.size+1,1,none⟩):Value):=gD ((hI.done 4 13 (by simp) rfl (hdep ⟨4,.data⟩ (by simp) rfl)).resolve_left (by decide));refine aF ho rfl (aE (v:=.agg #[.int .i64 f2,.slice A3 xs2.length c3]) (w':=w') (by simp[execOp,e13,l1,l2,go_sem]) ⟨_,rfl,Or.inr rfl,?_⟩);have hK:=hJ;rw[<-aB (l:=aA) (i:=5) (k:=8) (by decide)]at hK;rw[<-aB (l:=aA) (i:=5) (k:=9) (by decide)]at hK;rw[<-aB (l:=aA) (i:=5) (k:=10) (by decide)]at hK;rw[<-aB (l:=aA) (i:=5) (k:=11) (by decide)]at hK;rw[<-aB (l:=aA) (i:=5) (k:=12) (by decide)]at hK;rw[<-aB (l:=aA) (i:=5) (k:=13) (by decide)]at hK;rw[<-aB (l:=aA) (i:=5) (k:=14) (by decide)]at hK;rw[<-aB (l:=aA) (i:=5) (k:=15) (by decide)]at hK;rw[<-aC (a:=a) (d:=14) (s:=5) (v:=.agg #[.int .i64 f2,.slice A3 xs2.length c3]) (by decide)]at hK;rw[<-aC (a:=a) (d:=14) (s:=6) (v:=.agg #[.int .i64 f2,.slice A3 xs2.length c3]) (by decide)]at hK;rw[<-aC (a:=a) (d:=14) (s:=7) (v:=.agg #[.int .i64 f2,.slice A3 xs2.length c3]) (by decide)]at hK;rw[<-aC (a:=a) (d:=14) (s:=8) (v:=.agg #[.int .i64 f2,.slice A3 xs2.length c3]) (by decide)]at hK;exact hK
  . have e3:(a.tmps[3]?).getD undef=(.pointer (some ⟨w.heap.size+1,0,none⟩):Value):=gD (hI.fix 3 (by decide));refine aF ho rfl (aE (v:=.pointer (some ⟨w.heap.size+1,3,none⟩)) (w':=w') (by simp[execOp,e3,go_sem]) ⟨_,rfl,Or.inr rfl,?_⟩);have hK:=hJ;rw[<-aB (l:=aA) (i:=6) (k:=8) (by decide)]at hK;rw[<-aB (l:=aA) (i:=6) (k:=9) (by decide)]at hK;rw[<-aB (l:=aA) (i:=6) (k:=10) (by decide)]at hK;rw[<-aB (l:=aA) (i:=6) (k:=11) (by decide)]at hK;rw[<-aB (l:=aA) (i:=6) (k:=12) (by decide)]at hK;rw[<-aB (l:=aA) (i:=6) (k:=13) (by decide)]at hK;rw[<-aB (l:=aA) (i:=6) (k:=14) (by decide)]at hK;rw[<-aB (l:=aA) (i:=6) (k:=15) (by decide)]at hK;rw[<-aC (a:=a) (d:=15) (s:=5) (v:=.pointer (some ⟨w.heap.size+1,3,none⟩)) (by decide)]at hK;rw[<-aC (a:=a) (d:=15) (s:=6) (v:=.pointer (some ⟨w.heap.size+1,3,none⟩)) (by decide)]at hK;rw[<-aC (a:=a) (d:=15) (s:=7) (v:=.pointer (some ⟨w.heap.size+1,3,none⟩)) (by decide)]at hK;rw[<-aC (a:=a) (d:=15) (s:=8) (v:=.pointer (some ⟨w.heap.size+1,3,none⟩)) (by decide)]at hK;exact hK
  . have e15:(a.tmps[15]?).getD undef=(.pointer (some ⟨w.heap.size+1,3,none⟩):Value):=gD ((hI.done 6 15 (by simp) rfl (hdep ⟨6,.data⟩ (by simp) rfl)).resolve_left (by decide));refine aF ho rfl (aE (v:=.agg #[.int .i64 g2,.slice A4 ys2.length c4]) (w':=w') (by simp[execOp,e15,l3,l4,go_sem]) ⟨_,rfl,Or.inr rfl,?_⟩);have hK:=hJ;rw[<-aB (l:=aA) (i:=7) (k:=8) (by decide)]at hK;rw[<-aB (l:=aA) (i:=7) (k:=9) (by decide)]at hK;rw[<-aB (l:=aA) (i:=7) (k:=10) (by decide)]at hK;rw[<-aB (l:=aA) (i:=7) (k:=11) (by decide)]at hK;rw[<-aB (l:=aA) (i:=7) (k:=12) (by decide)]at hK;rw[<-aB (l:=aA) (i:=7) (k:=13) (by decide)]at hK;rw[<-aB (l:=aA) (i:=7) (k:=14) (by decide)]at hK;rw[<-aB (l:=aA) (i:=7) (k:=15) (by decide)]at hK;rw[<-aC (a:=a) (d:=16) (s:=5) (v:=.agg #[.int .i64 g2,.slice A4 ys2.length c4]) (by decide)]at hK;rw[<-aC (a:=a) (d:=16) (s:=6) (v:=.agg #[.int .i64 g2,.slice A4 ys2.length c4]) (by decide)]at hK;rw[<-aC (a:=a) (d:=16) (s:=7) (v:=.agg #[.int .i64 g2,.slice A4 ys2.length c4]) (by decide)]at hK;rw[<-aC (a:=a) (d:=16) (s:=8) (v:=.agg #[.int .i64 g2,.slice A4 ys2.length c4]) (by decide)]at hK;exact hK
  . refine aF ho rfl (aE (v:=.pointer (some ⟨w'.heap.size,0,none⟩)) (w':=w'.alloc (.cells #[.int .i64 0,.slice none 0 0] 87)) (by simp[execOp,go_sem]) ⟨_,rfl,Or.inl (by decide),?_⟩);have hK:=hJ.lay 0 (by simp) hl;show cP w3 87 (.int .i64 0) (.slice none 0 0) [⟨(aA.setIfInBounds 8 true).getD 8 false,(aA.setIfInBounds 8 true).getD 12 false,(a.put (some 5) (.pointer (some ⟨w'.heap.size,0,none⟩))).tmps.getD 5 undef,.int .i64 f1,.slice A1 xs1.length c1⟩,⟨(aA.setIfInBounds 8 true).getD 9 false,(aA.setIfInBounds 8 true).getD 13 false,(a.put (some 5) (.pointer (some ⟨w'.heap.size,0,none⟩))).tmps.getD 6 undef,.int .i64 g1,.slice A2 ys1.length c2⟩,⟨(aA.setIfInBounds 8 true).getD 10 false,(aA.setIfInBounds 8 true).getD 14 false,(a.put (some 5) (.pointer (some ⟨w'.heap.size,0,none⟩))).tmps.getD 7 undef,.int .i64 f2,.slice A3 xs2.length c3⟩,⟨(aA.setIfInBounds 8 true).getD 11 false,(aA.setIfInBounds 8 true).getD 15 false,(a.put (some 5) (.pointer (some ⟨w'.heap.size,0,none⟩))).tmps.getD 8 undef,.int .i64 g2,.slice A4 ys2.length c4⟩] _
    rw[aJ (by omega)];rw[aB (l:=aA) (i:=8) (k:=9) (by decide)];rw[aB (l:=aA) (i:=8) (k:=10) (by decide)];rw[aB (l:=aA) (i:=8) (k:=11) (by decide)];rw[aB (l:=aA) (i:=8) (k:=12) (by decide)];rw[aB (l:=aA) (i:=8) (k:=13) (by decide)];rw[aB (l:=aA) (i:=8) (k:=14) (by decide)];rw[aB (l:=aA) (i:=8) (k:=15) (by decide)];rw[aS (a:=a) (s:=5) (by rw[hts];show 5<42;decide)];rw[aC (a:=a) (d:=5) (s:=6) (by decide)];rw[aC (a:=a) (d:=5) (s:=7) (by decide)];rw[aC (a:=a) (d:=5) (s:=8) (by decide)];exact hK
  . refine aF ho rfl (aE (v:=.pointer (some ⟨w'.heap.size,0,none⟩)) (w':=w'.alloc (.cells #[.int .i64 0,.slice none 0 0] 87)) (by simp[execOp,go_sem]) ⟨_,rfl,Or.inl (by decide),?_⟩);have hK:=hJ.lay 1 (by simp) hl;show cP w3 87 (.int .i64 0) (.slice none 0 0) [⟨(aA.setIfInBounds 9 true).getD 8 false,(aA.setIfInBounds 9 true).getD 12 false,(a.put (some 6) (.pointer (some ⟨w'.heap.size,0,none⟩))).tmps.getD 5 undef,.int .i64 f1,.slice A1 xs1.length c1⟩,⟨(aA.setIfInBounds 9 true).getD 9 false,(aA.setIfInBounds 9 true).getD 13 false,(a.put (some 6) (.pointer (some ⟨w'.heap.size,0,none⟩))).tmps.getD 6 undef,.int .i64 g1,.slice A2 ys1.length c2⟩,⟨(aA.setIfInBounds 9 true).getD 10 false,(aA.setIfInBounds 9 true).getD 14 false,(a.put (some 6) (.pointer (some ⟨w'.heap.size,0,none⟩))).tmps.getD 7 undef,.int .i64 f2,.slice A3 xs2.length c3⟩,⟨(aA.setIfInBounds 9 true).getD 11 false,(aA.setIfInBounds 9 true).getD 15 false,(a.put (some 6) (.pointer (some ⟨w'.heap.size,0,none⟩))).tmps.getD 8 undef,.int .i64 g2,.slice A4 ys2.length c4⟩] _
    rw[aB (l:=aA) (i:=9) (k:=8) (by decide)];rw[aJ (by omega)];rw[aB (l:=aA) (i:=9) (k:=10) (by decide)];rw[aB (l:=aA) (i:=9) (k:=11) (by decide)];rw[aB (l:=aA) (i:=9) (k:=12) (by decide)];rw[aB (l:=aA) (i:=9) (k:=13) (by decide)];rw[aB (l:=aA) (i:=9) (k:=14) (by decide)];rw[aB (l:=aA) (i:=9) (k:=15) (by decide)];rw[aC (a:=a) (d:=6) (s:=5) (by decide)];rw[aS (a:=a) (s:=6) (by rw[hts];show 6<42;decide)];rw[aC (a:=a) (d:=6) (s:=7) (by decide)];rw[aC (a:=a) (d:=6) (s:=8) (by decide)];exact hK
  . refine aF ho rfl (aE (v:=.pointer (some ⟨w'.heap.size,0,none⟩)) (w':=w'.alloc (.cells #[.int .i64 0,.slice none 0 0] 87)) (by simp[execOp,go_sem]) ⟨_,rfl,Or.inl (by decide),?_⟩);have hK:=hJ.lay 2 (by simp) hl;show cP w3 87 (.int .i64 0) (.slice none 0 0) [⟨(aA.setIfInBounds 10 true).getD 8 false,(aA.setIfInBounds 10 true).getD 12 false,(a.put (some 7) (.pointer (some ⟨w'.heap.size,0,none⟩))).tmps.getD 5 undef,.int .i64 f1,.slice A1 xs1.length c1⟩,⟨(aA.setIfInBounds 10 true).getD 9 false,(aA.setIfInBounds 10 true).getD 13 false,(a.put (some 7) (.pointer (some ⟨w'.heap.size,0,none⟩))).tmps.getD 6 undef,.int .i64 g1,.slice A2 ys1.length c2⟩,⟨(aA.setIfInBounds 10 true).getD 10 false,(aA.setIfInBounds 10 true).getD 14 false,(a.put (some 7) (.pointer (some ⟨w'.heap.size,0,none⟩))).tmps.getD 7 undef,.int .i64 f2,.slice A3 xs2.length c3⟩,⟨(aA.setIfInBounds 10 true).getD 11 false,(aA.setIfInBounds 10 true).getD 15 false,(a.put (some 7) (.pointer (some ⟨w'.heap.size,0,none⟩))).tmps.getD 8 undef,.int .i64 g2,.slice A4 ys2.length c4⟩] _
    rw[aB (l:=aA) (i:=10) (k:=8) (by decide)];rw[aB (l:=aA) (i:=10) (k:=9) (by decide)];rw[aJ (by omega)];rw[aB (l:=aA) (i:=10) (k:=11) (by decide)];rw[aB (l:=aA) (i:=10) (k:=12) (by decide)];rw[aB (l:=aA) (i:=10) (k:=13) (by decide)];rw[aB (l:=aA) (i:=10) (k:=14) (by decide)];rw[aB (l:=aA) (i:=10) (k:=15) (by decide)];rw[aC (a:=a) (d:=7) (s:=5) (by decide)];rw[aC (a:=a) (d:=7) (s:=6) (by decide)];rw[aS (a:=a) (s:=7) (by rw[hts];show 7<42;decide)];rw[aC (a:=a) (d:=7) (s:=8) (by decide)];exact hK
  . refine aF ho rfl (aE (v:=.pointer (some ⟨w'.heap.size,0,none⟩)) (w':=w'.alloc (.cells #[.int .i64 0,.slice none 0 0] 87)) (by simp[execOp,go_sem]) ⟨_,rfl,Or.inl (by decide),?_⟩);have hK:=hJ.lay 3 (by simp) hl;show cP w3 87 (.int .i64 0) (.slice none 0 0) [⟨(aA.setIfInBounds 11 true).getD 8 false,(aA.setIfInBounds 11 true).getD 12 false,(a.put (some 8) (.pointer (some ⟨w'.heap.size,0,none⟩))).tmps.getD 5 undef,.int .i64 f1,.slice A1 xs1.length c1⟩,⟨(aA.setIfInBounds 11 true).getD 9 false,(aA.setIfInBounds 11 true).getD 13 false,(a.put (some 8) (.pointer (some ⟨w'.heap.size,0,none⟩))).tmps.getD 6 undef,.int .i64 g1,.slice A2 ys1.length c2⟩,⟨(aA.setIfInBounds 11 true).getD 10 false,(aA.setIfInBounds 11 true).getD 14 false,(a.put (some 8) (.pointer (some ⟨w'.heap.size,0,none⟩))).tmps.getD 7 undef,.int .i64 f2,.slice A3 xs2.length c3⟩,⟨(aA.setIfInBounds 11 true).getD 11 false,(aA.setIfInBounds 11 true).getD 15 false,(a.put (some 8) (.pointer (some ⟨w'.heap.size,0,none⟩))).tmps.getD 8 undef,.int .i64 g2,.slice A4 ys2.length c4⟩] _
    rw[aB (l:=aA) (i:=11) (k:=8) (by decide)];rw[aB (l:=aA) (i:=11) (k:=9) (by decide)];rw[aB (l:=aA) (i:=11) (k:=10) (by decide)];rw[aJ (by omega)];rw[aB (l:=aA) (i:=11) (k:=12) (by decide)];rw[aB (l:=aA) (i:=11) (k:=13) (by decide)];rw[aB (l:=aA) (i:=11) (k:=14) (by decide)];rw[aB (l:=aA) (i:=11) (k:=15) (by decide)];rw[aC (a:=a) (d:=8) (s:=5) (by decide)];rw[aC (a:=a) (d:=8) (s:=6) (by decide)];rw[aC (a:=a) (d:=8) (s:=7) (by decide)];rw[aS (a:=a) (s:=8) (by rw[hts];show 8<42;decide)];exact hK
  . have l5:=hdep ⟨8,.data⟩ (by simp) rfl;have e10:(a.tmps[10]?).getD undef=(.agg #[.int .i64 f1,.slice A1 xs1.length c1]:Value):=gD ((hI.done 1 10 (by simp) rfl (hdep ⟨1,.data⟩ (by simp) rfl)).resolve_left (by decide));have hla:aA.getD 8 false=true:=hdep ⟨8,.data⟩ (by simp) rfl;obtain⟨b,hx,hbx,hK⟩:=hJ.fill 0 (by simp) hla hl;obtain⟨m0,m1,m2⟩:=hbx.cells;have ebox:(a.tmps[5]?).getD undef=.pointer (some ⟨b,0,none⟩):=(by simpa using hx);refine aF ho rfl (bF (w':=(w'.setCell ⟨b,0,none⟩ (.int .i64 f1)).setCell ⟨b,1,none⟩ (.slice A1 xs1.length c1)) (by simp[execOp,ebox,e10,m0,m1,m2,go_sem]) ⟨_,rfl,Or.inr rfl,?_⟩);show cP w3 87 (.int .i64 0) (.slice none 0 0) [⟨(aA.setIfInBounds 12 true).getD 8 false,(aA.setIfInBounds 12 true).getD 12 false,a.tmps.getD 5 undef,.int .i64 f1,.slice A1 xs1.length c1⟩,⟨(aA.setIfInBounds 12 true).getD 9 false,(aA.setIfInBounds 12 true).getD 13 false,a.tmps.getD 6 undef,.int .i64 g1,.slice A2 ys1.length c2⟩,⟨(aA.setIfInBounds 12 true).getD 10 false,(aA.setIfInBounds 12 true).getD 14 false,a.tmps.getD 7 undef,.int .i64 f2,.slice A3 xs2.length c3⟩,⟨(aA.setIfInBounds 12 true).getD 11 false,(aA.setIfInBounds 12 true).getD 15 false,a.tmps.getD 8 undef,.int .i64 g2,.slice A4 ys2.length c4⟩] _
    rw[aB (l:=aA) (i:=12) (k:=8) (by decide)];rw[aB (l:=aA) (i:=12) (k:=9) (by decide)];rw[aB (l:=aA) (i:=12) (k:=10) (by decide)];rw[aB (l:=aA) (i:=12) (k:=11) (by decide)];rw[aJ (by omega)];rw[aB (l:=aA) (i:=12) (k:=13) (by decide)];rw[aB (l:=aA) (i:=12) (k:=14) (by decide)];rw[aB (l:=aA) (i:=12) (k:=15) (by decide)];rw[hla];exact hK
  . have l6:=hdep ⟨9,.data⟩ (by simp) rfl;have e12:(a.tmps[12]?).getD undef=(.agg #[.int .i64 g1,.slice A2 ys1.length c2]:Value):=gD ((hI.done 3 12 (by simp) rfl (hdep ⟨3,.data⟩ (by simp) rfl)).resolve_left (by decide));have hla:aA.getD 9 false=true:=hdep ⟨9,.data⟩ (by simp) rfl;obtain⟨b,hx,hbx,hK⟩:=hJ.fill 1 (by simp) hla hl;obtain⟨m0,m1,m2⟩:=hbx.cells;have ebox:(a.tmps[6]?).getD undef=.pointer (some ⟨b,0,none⟩):=(by simpa using hx);refine aF ho rfl (bF (w':=(w'.setCell ⟨b,0,none⟩ (.int .i64 g1)).setCell ⟨b,1,none⟩ (.slice A2 ys1.length c2)) (by simp[execOp,ebox,e12,m0,m1,m2,go_sem]) ⟨_,rfl,Or.inr rfl,?_⟩);show cP w3 87 (.int .i64 0) (.slice none 0 0) [⟨(aA.setIfInBounds 13 true).getD 8 false,(aA.setIfInBounds 13 true).getD 12 false,a.tmps.getD 5 undef,.int .i64 f1,.slice A1 xs1.length c1⟩,⟨(aA.setIfInBounds 13 true).getD 9 false,(aA.setIfInBounds 13 true).getD 13 false,a.tmps.getD 6 undef,.int .i64 g1,.slice A2 ys1.length c2⟩,⟨(aA.setIfInBounds 13 true).getD 10 false,(aA.setIfInBounds 13 true).getD 14 false,a.tmps.getD 7 undef,.int .i64 f2,.slice A3 xs2.length c3⟩,⟨(aA.setIfInBounds 13 true).getD 11 false,(aA.setIfInBounds 13 true).getD 15 false,a.tmps.getD 8 undef,.int .i64 g2,.slice A4 ys2.length c4⟩] _
    rw[aB (l:=aA) (i:=13) (k:=8) (by decide)];rw[aB (l:=aA) (i:=13) (k:=9) (by decide)];rw[aB (l:=aA) (i:=13) (k:=10) (by decide)];rw[aB (l:=aA) (i:=13) (k:=11) (by decide)];rw[aB (l:=aA) (i:=13) (k:=12) (by decide)];rw[aJ (by omega)];rw[aB (l:=aA) (i:=13) (k:=14) (by decide)];rw[aB (l:=aA) (i:=13) (k:=15) (by decide)];rw[hla];exact hK
  . have l7:=hdep ⟨10,.data⟩ (by simp) rfl;have e14:(a.tmps[14]?).getD undef=(.agg #[.int .i64 f2,.slice A3 xs2.length c3]:Value):=gD ((hI.done 5 14 (by simp) rfl (hdep ⟨5,.data⟩ (by simp) rfl)).resolve_left (by decide));have hla:aA.getD 10 false=true:=hdep ⟨10,.data⟩ (by simp) rfl;obtain⟨b,hx,hbx,hK⟩:=hJ.fill 2 (by simp) hla hl;obtain⟨m0,m1,m2⟩:=hbx.cells;have ebox:(a.tmps[7]?).getD undef=.pointer (some ⟨b,0,none⟩):=(by simpa using hx);refine aF ho rfl (bF (w':=(w'.setCell ⟨b,0,none⟩ (.int .i64 f2)).setCell ⟨b,1,none⟩ (.slice A3 xs2.length c3)) (by simp[execOp,ebox,e14,m0,m1,m2,go_sem]) ⟨_,rfl,Or.inr rfl,?_⟩);show cP w3 87 (.int .i64 0) (.slice none 0 0) [⟨(aA.setIfInBounds 14 true).getD 8 false,(aA.setIfInBounds 14 true).getD 12 false,a.tmps.getD 5 undef,.int .i64 f1,.slice A1 xs1.length c1⟩,⟨(aA.setIfInBounds 14 true).getD 9 false,(aA.setIfInBounds 14 true).getD 13 false,a.tmps.getD 6 undef,.int .i64 g1,.slice A2 ys1.length c2⟩,⟨(aA.setIfInBounds 14 true).getD 10 false,(aA.setIfInBounds 14 true).getD 14 false,a.tmps.getD 7 undef,.int .i64 f2,.slice A3 xs2.length c3⟩,⟨(aA.setIfInBounds 14 true).getD 11 false,(aA.setIfInBounds 14 true).getD 15 false,a.tmps.getD 8 undef,.int .i64 g2,.slice A4 ys2.length c4⟩] _
    rw[aB (l:=aA) (i:=14) (k:=8) (by decide)];rw[aB (l:=aA) (i:=14) (k:=9) (by decide)];rw[aB (l:=aA) (i:=14) (k:=10) (by decide)];rw[aB (l:=aA) (i:=14) (k:=11) (by decide)];rw[aB (l:=aA) (i:=14) (k:=12) (by decide)];rw[aB (l:=aA) (i:=14) (k:=13) (by decide)];rw[aJ (by omega)];rw[aB (l:=aA) (i:=14) (k:=15) (by decide)];rw[hla];exact hK
  have l8:=hdep ⟨11,.data⟩ (by simp) rfl;have e16:(a.tmps[16]?).getD undef=(.agg #[.int .i64 g2,.slice A4 ys2.length c4]:Value):=gD ((hI.done 7 16 (by simp) rfl (hdep ⟨7,.data⟩ (by simp) rfl)).resolve_left (by decide));have hla:aA.getD 11 false=true:=hdep ⟨11,.data⟩ (by simp) rfl;obtain⟨b,hx,hbx,hK⟩:=hJ.fill 3 (by simp) hla hl;obtain⟨m0,m1,m2⟩:=hbx.cells;have ebox:(a.tmps[8]?).getD undef=.pointer (some ⟨b,0,none⟩):=by simpa using hx
  refine aF ho rfl (bF (w':=(w'.setCell ⟨b,0,none⟩ (.int .i64 g2)).setCell ⟨b,1,none⟩ (.slice A4 ys2.length c4)) (by simp[execOp,ebox,e16,m0,m1,m2,go_sem]) ⟨_,rfl,Or.inr rfl,?_⟩);show cP w3 87 (.int .i64 0) (.slice none 0 0) [⟨(aA.setIfInBounds 15 true).getD 8 false,(aA.setIfInBounds 15 true).getD 12 false,a.tmps.getD 5 undef,.int .i64 f1,.slice A1 xs1.length c1⟩,⟨(aA.setIfInBounds 15 true).getD 9 false,(aA.setIfInBounds 15 true).getD 13 false,a.tmps.getD 6 undef,.int .i64 g1,.slice A2 ys1.length c2⟩,⟨(aA.setIfInBounds 15 true).getD 10 false,(aA.setIfInBounds 15 true).getD 14 false,a.tmps.getD 7 undef,.int .i64 f2,.slice A3 xs2.length c3⟩,⟨(aA.setIfInBounds 15 true).getD 11 false,(aA.setIfInBounds 15 true).getD 15 false,a.tmps.getD 8 undef,.int .i64 g2,.slice A4 ys2.length c4⟩] _
  rw[aB (l:=aA) (i:=15) (k:=8) (by decide)];rw[aB (l:=aA) (i:=15) (k:=9) (by decide)];rw[aB (l:=aA) (i:=15) (k:=10) (by decide)];rw[aB (l:=aA) (i:=15) (k:=11) (by decide)];rw[aB (l:=aA) (i:=15) (k:=12) (by decide)];rw[aB (l:=aA) (i:=15) (k:=13) (by decide)];rw[aB (l:=aA) (i:=15) (k:=14) (by decide)];rw[aJ (by omega)];rw[hla];exact hK
 case fin=>
  intro aA x wz hz hall hJ;have hz:aA.size=16:=hz;have hall:∀i,i<16->aA.getD i false=true:=hall;simp only[List.size_toArray,List.length_cons,List.length_nil,Nat.reduceAdd,bI];simp
  rw[hall 8 (by omega),hall 9 (by omega),hall 10 (by omega),hall 11 (by omega),hall 12 (by omega),hall 13 (by omega),hall 14 (by omega),hall 15 (by omega)]at hJ;obtain⟨hb,b5,b6,b7,b8,e5,e6,e7,e8,q5,q6,q7,q8,p5,p6,p7,p8⟩:=hJ.out4;rw[e5,e6,e7,e8];have hbn:=hb.size;have X1:Rd wz B (.sl 2 (aH xs1)) (.slice A1 xs1.length c1):=(H1.out.low HB3.out hB).low hb (by omega);have X2:Rd wz B (.sl 2 (aH ys1)) (.slice A2 ys1.length c2):=(H2.out.low HB3.out hB).low hb (by omega);have X3:Rd wz B (.sl 2 (aH xs2)) (.slice A3 xs2.length c3):=(H3.out.low HB3.out hB).low hb (by omega);have X4:Rd wz B (.sl 2 (aH ys2)) (.slice A4 ys2.length c4):=(H4.out.low HB3.out hB).low hb (by omega);have HXb:Below w.heap.size w wz:=HB3.out.trans (hb.mono (by omega));have y1:=cell_of_row wz w.heap.size 0 _ _ _ ((hb.block w.heap.size (by omega)).trans Hx1.out);have y2:=cell_of_row wz (w.heap.size+1) 0 _ _ _ ((hb.block (w.heap.size+1) (by omega)).trans Hx2.out);simp only[List.getElem?_toArray,List.getElem?_cons_zero]at y1 y2;have hBz:B<=wz.heap.size:=by omega
  clear hJ hall hb hbn H1 H2 H3 H4 Hx1 Hx2 HB3 hz3 e5 e6 e7 e8 hz;replace HR:=HR.out;obtain⟨s13,h13⟩:∃s,dZ (.mk f1 xs1) (.mk f2 xs2)=s:=⟨_,rfl⟩;obtain⟨s24,h24⟩:∃s,dZ (.mk g1 ys1) (.mk g2 ys2)=s:=⟨_,rfl⟩;obtain⟨s14,h14⟩:∃s,dZ (.mk f1 xs1) (.mk g2 ys2)=s:=⟨_,rfl⟩;obtain⟨s23,h23⟩:∃s,dZ (.mk g1 ys1) (.mk f2 xs2)=s:=⟨_,rfl⟩;rw[h13,h24,h14,h23]at HR;have W13:=Lh h13;have W24:=Lh h24;have W14:=Lh h14;have W23:=Lh h23;replace HR:=Lh HR;replace X1:=Lh X1;replace X2:=Lh X2;replace X3:=Lh X3;replace X4:=Lh X4;replace HXb:=Lh HXb;replace hBz:=Lh hBz;replace q5:=Lh p5;replace q6:=Lh p6;replace q7:=Lh p7;replace q8:=Lh p8;clear h13 h24 h14 h23 p5 p6 p7 p8;obtain⟨z51,z52,-⟩:=q5.out.cells;obtain⟨z61,z62,-⟩:=q6.out.cells;obtain⟨z71,z72,-⟩:=q7.out.cells;obtain⟨z81,z82,-⟩:=q8.out.cells;by_cases hn:n1=n2
  . subst hn;have HR2:(s13&&s24 || s14&&s23)=r:=(by simpa using HR.out);clear HR;rcases s13 with _ | _ <;> rcases s24 with _ | _ <;> rcases s14 with _ | _
    all_goals simp only[Bool.and_false,Bool.false_or,Bool.true_and,Bool.false_and,Bool.true_or,Bool.or_true,Bool.and_true,Bool.or_false]at HR2
    all_goals subst HR2
    all_goals
     go_wp2_with (
      go_at_call 65
      first
      | (
       with_reducible refine(eM _ f1 f2 xs1 xs2 _ _ B _ (Nat.lt_succ_self _) X1.out X3.out hBz.out).mono ?_
       rintro e w2 ⟨rfl,hb2⟩;rw[W13.out])
      | (
       with_reducible refine(eM _ g1 g2 ys1 ys2 _ _ B _ (Nat.lt_succ_self _) X2.out X4.out hBz.out).mono ?_
       rintro e w2 ⟨rfl,hb2⟩;rw[W24.out])
      | (
       with_reducible refine(eM _ f1 g2 xs1 ys2 _ _ B _ (Nat.lt_succ_self _) X1.out X4.out hBz.out).mono ?_
       rintro e w2 ⟨rfl,hb2⟩;rw[W14.out])
      | (
       with_reducible refine(eM _ g1 f2 ys1 xs2 _ _ B _ (Nat.lt_succ_self _) X2.out X3.out hBz.out).mono ?_
       rintro e w2 ⟨rfl,hb2⟩;rw[W23.out])
      replace X1:=Lh (X1.out.low hb2 hBz.out);replace X2:=Lh (X2.out.low hb2 hBz.out);replace X3:=Lh (X3.out.low hb2 hBz.out);replace X4:=Lh (X4.out.low hb2 hBz.out);replace q5:=Lh (q5.out.low hb2);replace q6:=Lh (q6.out.low hb2);replace q7:=Lh (q7.out.low hb2);replace q8:=Lh (q8.out.low hb2);replace HXb:=Lh (HXb.out.trans (hb2.mono HXb.out.size));replace hBz:=Lh (Nat.le_trans hBz.out hb2.size);clear hb2;obtain⟨z51,z52,-⟩:=q5.out.cells;obtain⟨z61,z62,-⟩:=q6.out.cells;obtain⟨z71,z72,-⟩:=q7.out.cells;obtain⟨z81,z82,-⟩:=q8.out.cells)
     go_ret;exact⟨rfl,HXb.out⟩
  have hn2:(n1==n2)=false:=by simpa using hn
  have HR2:r=false:=by rw[<-HR.out,decide_eq_false hn];rfl
  subst HR2;clear HR;go_wp2_with (
   go_at_call 65
   first
   | (
    with_reducible refine(eM _ f1 f2 xs1 xs2 _ _ B _ (Nat.lt_succ_self _) X1.out X3.out hBz.out).mono ?_
    rintro e w2 ⟨rfl,hb2⟩;rw[W13.out])
   | (
    with_reducible refine(eM _ g1 g2 ys1 ys2 _ _ B _ (Nat.lt_succ_self _) X2.out X4.out hBz.out).mono ?_
    rintro e w2 ⟨rfl,hb2⟩;rw[W24.out])
   | (
    with_reducible refine(eM _ f1 g2 xs1 ys2 _ _ B _ (Nat.lt_succ_self _) X1.out X4.out hBz.out).mono ?_
    rintro e w2 ⟨rfl,hb2⟩;rw[W14.out])
   | (
    with_reducible refine(eM _ g1 f2 ys1 xs2 _ _ B _ (Nat.lt_succ_self _) X2.out X3.out hBz.out).mono ?_
    rintro e w2 ⟨rfl,hb2⟩;rw[W23.out])
   replace X1:=Lh (X1.out.low hb2 hBz.out);replace X2:=Lh (X2.out.low hb2 hBz.out);replace X3:=Lh (X3.out.low hb2 hBz.out);replace X4:=Lh (X4.out.low hb2 hBz.out);replace q5:=Lh (q5.out.low hb2);replace q6:=Lh (q6.out.low hb2);replace q7:=Lh (q7.out.low hb2);replace q8:=Lh (q8.out.low hb2);replace HXb:=Lh (HXb.out.trans (hb2.mono HXb.out.size));replace hBz:=Lh (Nat.le_trans hBz.out hb2.size);clear hb2;obtain⟨z51,z52,-⟩:=q5.out.cells;obtain⟨z61,z62,-⟩:=q6.out.cells;obtain⟨z71,z72,-⟩:=q7.out.cells;obtain⟨z81,z82,-⟩:=q8.out.cells)
  go_ret;exact⟨rfl,HXb.out⟩
theorem iA (n:Int)(b:Nat)(A:Option Addr)(m c:Nat)(w:World)(hc:w.cell? ⟨b,0,none⟩=some (.slice A m c)):
 Calls Try.prog 63 (#[.int .i64 n]++ #[.pointer (some ⟨b,0,none⟩)]) w (aP (decide (n<0\/(m:Int)<=n)) w):=by
 by_cases hn:n<0
 . have e:decide (n<0\/(m:Int)<=n)=true:=by simp[hn]
   rw[e];go_enter Try.func63,Try.ntmps63;go_wp2_with fail;go_ret;exact⟨rfl,Below.refl _ _⟩
 have e:decide (n<0\/(m:Int)<=n)=decide ((m:Int)<=n):=by simp[hn]
 rw[e];clear e;go_enter Try.func63,Try.ntmps63;go_wp2_with fail;go_ret;exact⟨rfl,Below.refl _ _⟩
theorem aF1 (n m:Int)(b:Nat)(w:World)(hc:w.cell? ⟨b,0,none⟩=some (.int .i64 m)):
 Calls Try.prog 35 (#[.int .i64 n]++ #[.pointer (some ⟨b,0,none⟩)]) w (aP (decide (n<0\/m<=n)) w):=by
 by_cases hn:n<0
 . have e:decide (n<0\/m<=n)=true:=by simp[hn]
   rw[e];go_enter Try.func35,Try.ntmps35;go_wp2_with fail;go_ret;exact⟨rfl,Below.refl _ _⟩
 have e:decide (n<0\/m<=n)=decide (m<=n):=by simp[hn]
 rw[e];clear e;go_enter Try.func35,Try.ntmps35;go_wp2_with fail;go_ret;exact⟨rfl,Below.refl _ _⟩
def dI (x:Lt):Bool:=bJ x.l.fn x.l.args.length || bJ x.r.fn x.r.args.length
theorem jJ (n:Bool)(f g:Int)(xs ys:List Tm)(A1 A2:Option Addr)(c1 c2:Nat)(B:Nat)(w:World)(h1:Rd w B (.sl 2 (aH xs)) (.slice A1 xs.length c1))(h2:Rd w B (.sl 2 (aH ys)) (.slice A2 ys.length c2))(hB:B<=w.heap.size):
 Calls Try.prog 97 #[.agg #[.bool n,.int .i64 f,.slice A1 xs.length c1,.int .i64 g,.slice A2 ys.length c2]] w (aP (dI ⟨n,.mk f xs,.mk g ys⟩) w):=by
 obtain⟨b1,hb1⟩:∃b,bJ f xs.length=b:=⟨_,rfl⟩;obtain⟨b2,hb2⟩:∃b,bJ g ys.length=b:=⟨_,rfl⟩;have e:dI ⟨n,.mk f xs,.mk g ys⟩=(b1 || b2):=by rw[<-hb1,<-hb2];rfl
 rw[e];have W1:=Lh hb1;have W2:=Lh hb2;have H1:=Lh h1;have H2:=Lh h2;clear e hb1 hb2 h1 h2;cases b1 with
 | true=>
  go_enter Try.func97,Try.ntmps97;go_wp2_with (
   go_at_call 71
   with_reducible refine(bE f xs _ B _ (H1.out.low (aD w _) hB)).mono ?_
   rintro e w1 ⟨rfl,hb3⟩;rw[W1.out])
  go_ret;exact⟨rfl,(aD w _).trans (hb3.mono (by simp))⟩
 | false=>
  go_enter Try.func97,Try.ntmps97;go_wp2_with (
   go_at_call 71
   first
   | (
    with_reducible refine(bE f xs _ B _ (H1.out.low (aD w _) hB)).mono ?_
    rintro e w1 ⟨rfl,hb3⟩;rw[W1.out];have hbx1:=λo=>cell_of_row w1 w.heap.size o _ _ _ ((hb3.block w.heap.size (by simp)).trans (heap_alloc_new w _))
    have Hb3:=Lh hb3;clear hb3)
   | (
    with_reducible refine(bE g ys _ B _ ((H2.out.low (aD w _) hB).low Hb3.out (by simp;omega))).mono ?_
    rintro e w1 ⟨rfl,hb4⟩;rw[W2.out]))
  go_ret;exact⟨rfl,(aD w _).trans ((Hb3.out.mono (by simp)).trans (hb4.mono (by have:=Hb3.out.size;simp at this;omega)))⟩
theorem xM (x:Lt)(c:Cl)(i:Nat)(ev:Value)(b1 b2:Nat)(A:Option Addr)(cp:Nat)(B:Nat)(w:World)(hx:LtV w B x ev)(hr:Rd w B (aT c) (.slice A c.length cp))(hi:i<c.length)
 (h1:w.cell? ⟨b1,0,none⟩=some (.slice A c.length cp)) (h2:w.cell? ⟨b2,0,none⟩=some (.int .i64 i)) (hb1:b1<w.heap.size) (hb2:b2<w.heap.size) (hB:B<=w.heap.size):
 Calls Try.prog 66 (#[ev]++ #[.pointer (some ⟨b1,0,none⟩),.pointer (some ⟨b2,0,none⟩)]) w (aP (jT x c[i]) w):=by
 obtain⟨ab,off,n2,f2,xs2,A3,c3,g2,ys2,A4,c4,rfl,hxk,hab,k0,k1,k2,k3,k4,r3,r4⟩:=hr.lt_at hi;rw[hxk];obtain⟨n1,⟨f1,xs1⟩,⟨g1,ys1⟩⟩:=x;obtain⟨A1,c1,A2,c2,rfl,r1,r2⟩:=hx;simp only[Tm.fn,Tm.args]at r1 r2 ⊢;clear hxk hr;have hbx:=aD w (.cells #[.bool n1,.int .i64 f1,.slice A1 xs1.length c1,.int .i64 g1,.slice A2 ys1.length c2] 53);obtain⟨W,hW⟩:∃W,W=w.alloc (.cells #[.bool n1,.int .i64 f1,.slice A1 xs1.length c1,.int .i64 g1,.slice A2 ys1.length c2] 53):=⟨_,rfl⟩;rw[<-hW]at hbx;have q1:=(hbx.cell (p:=⟨b1,0,none⟩) hb1).trans h1;have q2:=(hbx.cell (p:=⟨b2,0,none⟩) hb2).trans h2;have l0:=(hbx.cell (p:=⟨ab,off+i*5,none⟩) (Nat.lt_of_lt_of_le hab hB)).trans k0;have l1:=(hbx.cell (p:=⟨ab,off+i*5+1,none⟩) (Nat.lt_of_lt_of_le hab hB)).trans k1;have l2:=(hbx.cell (p:=⟨ab,off+i*5+2,none⟩) (Nat.lt_of_lt_of_le hab hB)).trans k2;have l3:=(hbx.cell (p:=⟨ab,off+i*5+3,none⟩) (Nat.lt_of_lt_of_le hab hB)).trans k3;have l4:=(hbx.cell (p:=⟨ab,off+i*5+4,none⟩) (Nat.lt_of_lt_of_le hab hB)).trans k4;have hbz:=hbx.size;have m:=λo=>cell_of_row W w.heap.size o _ _ _ (by rw[hW];exact heap_alloc_new w _)
 have R1:=Lh (r1.low hbx hB);have R2:=Lh (r2.low hbx hB);have R3:=Lh (r3.low hbx hB);have R4:=Lh (r4.low hbx hB);have HW:=Lh hW;have Hbx:=Lh hbx;clear r1 r2 r3 r4 hbx h1 h2 k0 k1 k2 k3 k4;go_enter Try.func66,Try.ntmps66;go_upto_region 1 with fail
 rw[<-hW];clear hW;go_still_tail 5,(by kernel_rfl)
 change wpList _ _ _ _ _ W.drew
 have Hbd:=Lh (Below.refl W.heap.size W).drew;clear q1 q2 l0 l1 l2 l3 l4 m;obtain⟨V,hV⟩:∃V,V=W.drew:=⟨_,rfl⟩;rw[<-hV];have hzV:V.heap.size=W.heap.size:=by rw[hV];rfl
 have Hbv:Hid (Below W.heap.size W V):=Lh (by rw[hV];exact Hbd.out);clear hV Hbd;go_wp2_with (
  go_at_call 67
  with_reducible refine(aB3 n1 n2 f1 g1 f2 g2 xs1 ys1 xs2 ys2 A1 A2 A3 A4 c1 c2 c3 c4 B _ (R1.out.low Hbv.out (by omega)) (R2.out.low Hbv.out (by omega)) (R3.out.low Hbv.out (by omega)) (R4.out.low Hbv.out (by omega)) (by omega)).mono ?_
  rintro e w1 ⟨rfl,hb3⟩)
 go_ret;exact⟨rfl,Hbx.out.trans ((Hbv.out.mono (by omega)).trans (hb3.mono (by omega)))⟩
theorem mQ {α:Type} (u:α) {size d:Nat} (hd:d<size):∀(rows:List (List α)) (k:Nat),(∀r∈rows,r.length=size)->(hk:k<rows.length)->(rows.set k (rows[k].set d u)).flatten=rows.flatten.set (k*size+d) u
 | [],k,_,h=>by simp at h
 | r::rows,0,hr,_=>by
  have h2:=hr r (List.mem_cons_self ..);simp only[List.set_cons_zero,List.getElem_cons_zero,List.flatten_cons,Nat.zero_mul,Nat.zero_add];rw[List.set_append_left _ _ (by omega)]
 | r::rows,k+1,hr,h=>by
  have h2:=hr r (List.mem_cons_self ..);have ih:=mQ u hd rows k (λr h=>hr r (List.mem_cons_of_mem _ h)) (by simpa using h);have e1:(k+1)*size+d=k*size+d+r.length:=by rw[Nat.succ_mul];omega
  simp only[List.set_cons_succ,List.getElem_cons_succ,List.flatten_cons];rw[ih,e1,List.set_append_right _ _ (by omega)];congr 2
  omega
theorem Own.setPart {w:World} {base g n c k size d:Nat} {e:TypeId} {rows:List (List Value)} (h:Own w base e size (.slice (some ⟨g,0,none⟩) n c) rows)(hk:k<rows.length)(hd:d<size)(u:Value):
 Own (w.setCell ⟨g,k*size+d,none⟩ u) base e size (.slice (some ⟨g,0,none⟩) n c) (rows.set k (rows[k].set d u)):=by
 have hn:n=rows.length:=by
  obtain⟨A,c',hv,_⟩:=h.form;injection hv
 subst hn;have h1:=h.1;have h2:=(h1.stored (k*size+d) u).1;refine⟨?_,?_⟩
 . rw[List.length_set,mQ u hd rows k h.2 hk];exact h2
 intro r hr;rcases List.mem_or_eq_of_mem_set hr with h' | rfl
 . exact h.2 r h'
 rw[List.length_set];exact h.2 _ (List.getElem_mem hk)
theorem bC.setPart {w:World} {M:Nat->Prop} {base g n c k size d:Nat} {e:TypeId} {trs:List (List Tr)} (h:bC w M base e size (.slice (some ⟨g,0,none⟩) n c) trs)(hk:k<trs.length)(hd:d<size) {t:Tr} {u:Value}
 (h0:RdP w (λb=>NbP M base b/\b≠g) t u):
 bC (w.setCell ⟨g,k*size+d,none⟩ u) M base e size (.slice (some ⟨g,0,none⟩) n c) (trs.set k (trs[k].set d t)):=by
 obtain⟨rows,ho,hl,hr,hc⟩:=h;have hup:Upd w (w.setCell ⟨g,k*size+d,none⟩ u) (λi=>i=g):=aM (w:=w) (b:=g) (o:=k*size+d) u;have hkr:k<rows.length:=by omega
 have conv:∀{t:Tr} {x:Value},RdP w (λb=>NbP M base b/\b≠g) t x->RdP (w.setCell ⟨g,k*size+d,none⟩ u) (λb=>NbP M base b/\(Value.slice (some ⟨g,0,none⟩) n c).ownBlock≠some b) t x:=λhh=>
  (hh.upd hup (λb hb _=>hb.2)).more λb hb _=>⟨hb.1,λe=>hb.2 (by have:g=b:=Option.some.inj e;exact this.symm)⟩
 have old:∀j (hj:j<trs.length) (hj2:j<rows.length) i (hi:i<trs[j].length) (hi2:i<rows[j].length),RdP w (λb=>NbP M base b/\b≠g) trs[j][i] rows[j][i]:=λj hj hj2 i hi hi2=>
  (hc j hj hj2 i hi hi2).more λb hb _=>⟨hb.1,λe=>hb.2 (by rw[e];rfl)⟩
 refine⟨rows.set k (rows[k].set d u),ho.setPart hkr hd u,by simp[hl],?_,?_⟩
 . intro r hr';rcases List.mem_or_eq_of_mem_set hr' with h' | rfl
   . exact hr r h'
   rw[List.length_set];exact hr _ (List.getElem_mem hk)
 intro j hj hj2 i hi hi2;rw[List.length_set]at hj hj2;by_cases hjk:k=j
 . subst hjk;simp only[List.getElem_set_self,List.length_set]at hi hi2 ⊢;by_cases hdi:d=i
   . subst hdi;simp only[List.getElem_set_self];exact conv h0
   simp only[List.getElem_set_ne hdi];exact conv (old k hj hj2 i hi hi2)
 simp only[List.getElem_set_ne hjk]at hi hi2 ⊢;exact conv (old j hj hj2 i hi hi2)
theorem bC.rowN {w:World} {M:Nat->Prop} {base n c k size:Nat} {A:Option Addr} {e:TypeId} {trs:List (List Tr)} (h:bC w M base e size (.slice A n c) trs)(hk:k<trs.length)(hs:0<size):
 ∃g,A=some ⟨g,0,none⟩/\base<=g/\g<w.heap.size/\n=trs.length/\trs[k].length=size/\(∀j,w.frozen? ⟨g,j,none⟩=false)/\
  ∀d (hd:d<trs[k].length),∃u,w.cell? ⟨g,k*size+d,none⟩=some u/\RdP w (λb=>NbP M base b/\b≠g) trs[k][d] u:=by
 obtain⟨rows,ho,hl,hr,hc⟩:=h;have hkr:k<rows.length:=by omega
 obtain⟨g,hA,hb,hg,hcell,_⟩:=ho.row_at (k:=k) hkr hs;have hrl:rows[k].length=size:=ho.2 _ (List.getElem_mem hkr);have htl:trs[k].length=size:=hr _ (List.getElem_mem hk);have hn:n=rows.length:=by
  obtain⟨A,c',hv,_⟩:=ho.form;injection hv
 refine⟨g,hA,hb,hg,by omega,htl,λj=>?_,λd hd=>⟨rows[k][d],hcell d (by omega),?_⟩⟩
 . subst hA;rcases ho.1.2 with⟨h',_⟩ | ⟨g',cap,cur,h',_,hh,_⟩
   . cases h'
   injection h' with h' _ _
   injection h' with h'
   injection h' with h' _ _
   subst h';exact frozen_of_row w _ j cur e hh
 exact(hc k hk hkr d hd (by omega)).more λb hb' _=>⟨hb'.1,λe=>hb'.2 (by rw[hA,e];rfl)⟩
theorem bC.base_le {w:World} {M:Nat->Prop} {base base' size:Nat} {e:TypeId} {v:Value} {trs:List (List Tr)} (h:bC w M base e size v trs)(hb:base'<=base):bC w M base' e size v trs:=by
 obtain⟨rows,ho,hl,hr,hc⟩:=h;exact⟨rows,ho.base_le hb,hl,hr,λk h1 h2 j h3 h4=>(hc k h1 h2 j h3 h4).more λb hb' _=>⟨hb'.1.imp id (λh=>Nat.le_trans hb h),hb'.2⟩⟩
theorem bC.moreM {w:World} {M M':Nat->Prop} {base size:Nat} {e:TypeId} {v:Value} {trs:List (List Tr)} (h:bC w M base e size v trs)(hM:∀b,M b->M' b):bC w M' base e size v trs:=by
 obtain⟨rows,ho,hl,hr,hc⟩:=h;exact⟨rows,ho,hl,hr,λk h1 h2 j h3 h4=>(hc k h1 h2 j h3 h4).more λb hb' _=>⟨hb'.1.imp (hM b) id,hb'.2⟩⟩
def fF (x:Lt)(r:Bool):Tm:=if r then x.r else x.l
def nG (x:Lt)(r:Bool)(t:Tm):Lt:=if r then⟨x.neg,x.l,t⟩else⟨x.neg,t,x.r⟩
def eD (c:Cl)(i:Nat)(x:Lt)(r:Bool)(p:List Int)(t:Tm):Cl:=c.set i (nG x r (eJ (fF x r) p t))
theorem nC (c:Cl)(i:Nat)(r:Bool)(p:List Int)(g:Int)(us:List Tm)(v vp vu:Value)(M:Nat->Prop)(B:Nat)(w:World)(hr:RdP w M (aT c) v)(hu:RdP w M (.sl 2 (aH us)) vu)(hp:Rd w B (bM p) vp)(hB:B<=w.heap.size)
 (hi:i<c.length) (hn:c.length<=1000000000) (hz:aI (fF c[i] r).args<=1000000000) (hat:atT (fF c[i] r) p≠none):
 Calls Try.prog 75 #[v,.int .i64 (i:Nat),.bool r,vp,.agg #[.int .i64 g,vu]] w (yE M 53 5 ((eD c i c[i] r p (.mk g us)).map aQ) w):=by
 obtain⟨Au,cu,rfl,hcu,hnu,hmu⟩:=hu.rd'.tm_form;have HR:=Lh hr;have HU:=Lh hu;have HP:=Lh hp;have hlm:(c.map aQ).length=c.length:=List.length_map _;rcases hxi:c[i]with⟨n0,⟨f1,ys1⟩,⟨f2,ys2⟩⟩
 rw[hxi]at hz hat;have hrowe:(c.map aQ)[i]'(by rw[hlm];exact hi)=[.leaf (.bool n0),.leaf (.int .i64 f1),.sl 2 (aH ys1),.leaf (.int .i64 f2),.sl 2 (aH ys2)]:=by simp[hxi,aQ,bB]
 clear hr hu hp;obtain⟨hx1,hx1z⟩:(w.alloc (.cells #[.int .i64 g,.slice Au us.length cu] 87)).heap[w.heap.size]? =some (.cells #[.int .i64 g,.slice Au us.length cu] 87)/\True:=⟨heap_alloc_new w _,trivial⟩;have hB0:=aD w (.cells #[.int .i64 g,.slice Au us.length cu] 87);have hz0:(w.alloc (.cells #[.int .i64 g,.slice Au us.length cu] 87)).heap.size=w.heap.size+1:=by simp
 go_enter Try.func75,Try.ntmps75;go_upto_region 1 with fail
 generalize w.alloc (.cells #[.int .i64 g,.slice Au us.length cu] 87)=w0 at hx1 hB0 hz0 ⊢;have HB0:=Lh hB0;have Hx1:=Lh hx1;clear hx1 hx1z hB0;go_upto_region 2 with(
  go_at_call 85
  refine(pV c _ (λb=>M b/\b<w.heap.size) w0 ((HR.out.more (P':=λb=>M b/\b<w.heap.size) (λb hb hlt=>⟨hb,hlt⟩)).low HB0.out) hn).mono ?_;rintro e w1 ⟨v1,rfl,hown,hb1⟩;have Hown:=Lh hown;have Hb1:=Lh hb1;clear hown hb1)
 obtain⟨A1,c1,hv1,hc1,hm1⟩:=Hown.out.form;rw[hlm]at hv1 hc1;subst hv1;obtain⟨g1,rfl,hg1b,hg1,hnn,htl,q2,hd⟩:=Hown.out.rowN (k:=i) (by rw[hlm];exact hi) (by decide);have hd0:=hd 0 (by omega);have hd1:=hd 1 (by omega);have hd2:=hd 2 (by omega);have hd3:=hd 3 (by omega);have hd4:=hd 4 (by omega);simp only[hrowe,List.getElem_cons_zero,List.getElem_cons_succ]at hd0 hd1 hd2 hd3 hd4;obtain⟨u0,k0,s0⟩:=hd0;obtain⟨u1,k1,s1⟩:=hd1;obtain⟨u2,k2,s2⟩:=hd2;obtain⟨u3,k3,s3⟩:=hd3;obtain⟨u4,k4,s4⟩:=hd4;rw[Nat.add_zero]at k0;obtain rfl:=s0.leaf_inv;obtain rfl:=s1.leaf_inv;obtain rfl:=s3.leaf_inv;obtain⟨A2,c2,rfl,-⟩:=s2.rd'.tm_form;obtain⟨A4,c4,rfl,-⟩:=s4.rd'.tm_form;have S2:=Lh s2;have S4:=Lh s4;clear s2 s4 s0 s1 s3 hd htl hnn;have HXI:=Lh hxi;have HROW:=Lh hrowe;have HAT:=Lh hat;clear hxi hrowe hat;have hz1:=Hb1.out.size;have hbx1:aL w.heap.size 87 (.int .i64 g) (.slice Au us.length cu) w1:=(Hb1.out.block _ (by omega)).trans Hx1.out;have HBX:=Lh hbx1;clear hbx1;cases r with
 | true=>
  have hsd:fF ⟨n0,.mk f1 ys1,.mk f2 ys2⟩ true=.mk f2 ys2:=rfl;rw[hsd]at hz;have hzt:aI ys2<=1000000000:=hz;have Hat:Hid (atT (.mk f2 ys2) p≠none):=Lh (by have:=HAT.out;rw[hsd]at this;exact this);clear hz HAT;obtain⟨t,ht⟩:∃t,eJ (.mk f2 ys2) p (.mk g us)=t:=⟨_,rfl⟩;have hrep:(eD c i ⟨n0,.mk f1 ys1,.mk f2 ys2⟩ true p (.mk g us)).map aQ=(c.map aQ).set i ((((c.map aQ)[i]'(by rw[hlm];exact hi)).set 3 (.leaf (.int .i64 t.fn))).set 4 (.sl 2 (aH t.args))):=by
   unfold eD;rw[hsd,ht,List.map_set,HROW.out];rcases t with⟨tf,tas⟩
   rfl
  have Hrep:=Lh hrep;have Ht:=Lh ht;clear ht hrep hsd;go_upto_region 4 with(
   go_at_call 70
   with_reducible refine(nB n0 true f1 f2 ys1.length ys2.length A2 A4 c2 c4 _).mono ?_
   rintro e w2 ⟨rfl,hb2⟩;have Hb2:=Lh hb2;clear hb2)
  obtain⟨hy1,hy2,hB3,hz3⟩:=aO w2 (.cells #[.int .i64 f2,.slice A4 ys2.length c4] 87) (.cells #[.int .i64 f1,.slice A2 ys1.length c2] 87);generalize (w2.alloc (.cells #[.int .i64 f2,.slice A4 ys2.length c4] 87)).alloc (.cells #[.int .i64 f1,.slice A2 ys1.length c2] 87)=w3 at hy1 hy2 hB3 hz3 ⊢;have hz2:=Hb2.out.size;have hyb:aL w2.heap.size 87 (.int .i64 f2) (.slice A4 ys2.length c4) w3:=hy1;have B13:Below w1.heap.size w1 w3:=Hb2.out.trans (hB3.mono hz2);have B03:Below w0.heap.size w0 w3:=Hb1.out.trans (B13.mono hz1);have Bw3:Below w.heap.size w w3:=HB0.out.trans (B03.mono (by omega));have hxb:aL w.heap.size 87 (.int .i64 g) (.slice Au us.length cu) w3:=(B13.block _ (by omega)).trans HBX.out;have P1:RdP w3 (λb=>NbP (λb=>M b/\b<w.heap.size) w0.heap.size b/\b≠g1) (.sl 2 (aH ys2)) (.slice A4 ys2.length c4):=S4.out.low B13;have P2:RdP w3 (λb=>NbP (λb=>M b/\b<w.heap.size) w0.heap.size b/\b≠g1) (.sl 2 (aH us)) (.slice Au us.length cu):=
   ((HU.out.more (P':=λb=>M b/\b<w.heap.size) (λb hb hlt=>⟨hb,hlt⟩)).low Bw3).more λb hb _=>⟨.inl hb,by have:=hb.2;omega⟩
  have P3:Rd w3 B (bM p) vp:=HP.out.low Bw3 hB;have Q1:=Lh P1;have Q2:=Lh P2;have Q3:=Lh P3;have hBw3:B<=w3.heap.size:=by have:=Bw3.size;omega
  obtain⟨j0,j1,-⟩:=hyb.cells;obtain⟨l0,l1,-⟩:=hxb.cells;have HBw3:=Lh Bw3;have HB13:=Lh B13;have Hk3:=Lh k3;have Hk4:=Lh k4;have hz13:=B13.size;clear P1 P2 P3 hyb hxb hy1 hy2 hB3 B13 B03 Bw3 k0 k1 k2 k3 k4 Hb2;go_wp2_with (
   go_at_call 94
   with_reducible refine(aA6 p f2 g ys2 us _ _ _ (λb=>NbP (λb=>M b/\b<w.heap.size) w0.heap.size b/\b≠g1) B w3 Q1.out Q2.out Q3.out hBw3 hzt Hat.out).mono ?_
   rw[Ht.out];rintro e w4 ⟨A',c',rfl,hrd,hb4⟩;have k3:=(hb4.cell (p:=⟨g1,i*5+3,none⟩) (by show g1<w3.heap.size;omega)).trans ((HB13.out.cell (p:=⟨g1,i*5+3,none⟩) hg1).trans Hk3.out);have k4:=(hb4.cell (p:=⟨g1,i*5+4,none⟩) (by show g1<w3.heap.size;omega)).trans ((HB13.out.cell (p:=⟨g1,i*5+4,none⟩) hg1).trans Hk4.out);have q4:∀j,w4.frozen? ⟨g1,j,none⟩=false:=by
    obtain⟨g',hA',-,-,-,-,hfz,-⟩:=((Hown.out.low HB13.out).low hb4).rowN (k:=i) (by rw[hlm];exact hi) (by decide);injection hA' with hA'
    injection hA' with hA' _ _
    subst hA';exact hfz
   have Hrd:=Lh hrd;have Hb4:=Lh hb4;clear hrd hb4)
  go_ret;rw[Hrep.out];have hown4:=(Hown.out.low HB13.out).low Hb4.out;have hz4:=Hb4.out.size;have hup1:=aM (w:=w4) (b:=g1) (o:=i*5+3) (.int .i64 t.fn);have hup2:=aM (w:=w4.setCell ⟨g1,i*5+3,none⟩ (.int .i64 t.fn)) (b:=g1) (o:=i*5+4) (.slice A' t.args.length c');have o1:=hown4.setPart (k:=i) (d:=3) (by rw[hlm];exact hi) (by decide) (t:=.leaf (.int .i64 t.fn)) (u:=.int .i64 t.fn) (.leaf _);have o2:=o1.setPart (k:=i) (d:=4) (by rw[List.length_set,hlm];exact hi) (by decide) (t:=.sl 2 (aH t.args)) (u:=.slice A' t.args.length c')
   ((Hrd.out.more (P':=λb=>NbP (λb=>M b/\b<w.heap.size) w0.heap.size b/\b≠g1) (λb hb _=>by rcases hb with hb | hb;exact hb;exact⟨.inr (by omega),by omega⟩)).upd hup1 (λb hb _=>hb.2))
  rw[List.set_set,List.getElem_set_self]at o2;refine⟨_,rfl,(o2.base_le (by omega)).moreM (λb hb=>hb.1),?_⟩;exact HBw3.out.trans ((Hb4.out.mono (by have:=HBw3.out.size;omega)).trans ((hup1.trans hup2 (λ_ h=>.inl h)).toLow (by omega) (by rintro k rfl;omega)))
 | false=>
  have hsd:fF ⟨n0,.mk f1 ys1,.mk f2 ys2⟩ false=.mk f1 ys1:=rfl;rw[hsd]at hz;have hzt:aI ys1<=1000000000:=hz;have Hat:Hid (atT (.mk f1 ys1) p≠none):=Lh (by have:=HAT.out;rw[hsd]at this;exact this);clear hz HAT;obtain⟨t,ht⟩:∃t,eJ (.mk f1 ys1) p (.mk g us)=t:=⟨_,rfl⟩;have hrep:(eD c i ⟨n0,.mk f1 ys1,.mk f2 ys2⟩ false p (.mk g us)).map aQ=(c.map aQ).set i ((((c.map aQ)[i]'(by rw[hlm];exact hi)).set 1 (.leaf (.int .i64 t.fn))).set 2 (.sl 2 (aH t.args))):=by
   unfold eD;rw[hsd,ht,List.map_set,HROW.out];rcases t with⟨tf,tas⟩
   rfl
  have Hrep:=Lh hrep;have Ht:=Lh ht;clear ht hrep hsd;go_upto_region 5 with(
   go_at_call 70
   with_reducible refine(nB n0 false f1 f2 ys1.length ys2.length A2 A4 c2 c4 _).mono ?_
   rintro e w2 ⟨rfl,hb2⟩;have Hb2:=Lh hb2;clear hb2)
  obtain⟨hy1,hy2,hB3,hz3⟩:=aO w2 (.cells #[.int .i64 f1,.slice A2 ys1.length c2] 87) (.cells #[.int .i64 f2,.slice A4 ys2.length c4] 87);generalize (w2.alloc (.cells #[.int .i64 f1,.slice A2 ys1.length c2] 87)).alloc (.cells #[.int .i64 f2,.slice A4 ys2.length c4] 87)=w3 at hy1 hy2 hB3 hz3 ⊢;have hz2:=Hb2.out.size;have hyb:aL w2.heap.size 87 (.int .i64 f1) (.slice A2 ys1.length c2) w3:=hy1;have B13:Below w1.heap.size w1 w3:=Hb2.out.trans (hB3.mono hz2);have B03:Below w0.heap.size w0 w3:=Hb1.out.trans (B13.mono hz1);have Bw3:Below w.heap.size w w3:=HB0.out.trans (B03.mono (by omega));have hxb:aL w.heap.size 87 (.int .i64 g) (.slice Au us.length cu) w3:=(B13.block _ (by omega)).trans HBX.out;have P1:RdP w3 (λb=>NbP (λb=>M b/\b<w.heap.size) w0.heap.size b/\b≠g1) (.sl 2 (aH ys1)) (.slice A2 ys1.length c2):=S2.out.low B13;have P2:RdP w3 (λb=>NbP (λb=>M b/\b<w.heap.size) w0.heap.size b/\b≠g1) (.sl 2 (aH us)) (.slice Au us.length cu):=
   ((HU.out.more (P':=λb=>M b/\b<w.heap.size) (λb hb hlt=>⟨hb,hlt⟩)).low Bw3).more λb hb _=>⟨.inl hb,by have:=hb.2;omega⟩
  have P3:Rd w3 B (bM p) vp:=HP.out.low Bw3 hB;have Q1:=Lh P1;have Q2:=Lh P2;have Q3:=Lh P3;have hBw3:B<=w3.heap.size:=by have:=Bw3.size;omega
  obtain⟨j0,j1,-⟩:=hyb.cells;obtain⟨l0,l1,-⟩:=hxb.cells;have HBw3:=Lh Bw3;have HB13:=Lh B13;have Hk3:=Lh k1;have Hk4:=Lh k2;have hz13:=B13.size;clear P1 P2 P3 hyb hxb hy1 hy2 hB3 B13 B03 Bw3 k0 k1 k2 k3 k4 Hb2;go_wp2_with (
   go_at_call 94
   with_reducible refine(aA6 p f1 g ys1 us _ _ _ (λb=>NbP (λb=>M b/\b<w.heap.size) w0.heap.size b/\b≠g1) B w3 Q1.out Q2.out Q3.out hBw3 hzt Hat.out).mono ?_
   rw[Ht.out];rintro e w4 ⟨A',c',rfl,hrd,hb4⟩;have k3:=(hb4.cell (p:=⟨g1,i*5+1,none⟩) (by show g1<w3.heap.size;omega)).trans ((HB13.out.cell (p:=⟨g1,i*5+1,none⟩) hg1).trans Hk3.out);have k4:=(hb4.cell (p:=⟨g1,i*5+2,none⟩) (by show g1<w3.heap.size;omega)).trans ((HB13.out.cell (p:=⟨g1,i*5+2,none⟩) hg1).trans Hk4.out);have q4:∀j,w4.frozen? ⟨g1,j,none⟩=false:=by
    obtain⟨g',hA',-,-,-,-,hfz,-⟩:=((Hown.out.low HB13.out).low hb4).rowN (k:=i) (by rw[hlm];exact hi) (by decide);injection hA' with hA'
    injection hA' with hA' _ _
    subst hA';exact hfz
   have Hrd:=Lh hrd;have Hb4:=Lh hb4;clear hrd hb4)
  go_ret;rw[Hrep.out];have hown4:=(Hown.out.low HB13.out).low Hb4.out;have hz4:=Hb4.out.size;have hup1:=aM (w:=w4) (b:=g1) (o:=i*5+1) (.int .i64 t.fn);have hup2:=aM (w:=w4.setCell ⟨g1,i*5+1,none⟩ (.int .i64 t.fn)) (b:=g1) (o:=i*5+2) (.slice A' t.args.length c');have o1:=hown4.setPart (k:=i) (d:=1) (by rw[hlm];exact hi) (by decide) (t:=.leaf (.int .i64 t.fn)) (u:=.int .i64 t.fn) (.leaf _);have o2:=o1.setPart (k:=i) (d:=2) (by rw[List.length_set,hlm];exact hi) (by decide) (t:=.sl 2 (aH t.args)) (u:=.slice A' t.args.length c')
   ((Hrd.out.more (P':=λb=>NbP (λb=>M b/\b<w.heap.size) w0.heap.size b/\b≠g1) (λb hb _=>by rcases hb with hb | hb;exact hb;exact⟨.inr (by omega),by omega⟩)).upd hup1 (λb hb _=>hb.2))
  rw[List.set_set,List.getElem_set_self]at o2;refine⟨_,rfl,(o2.base_le (by omega)).moreM (λb hb=>hb.1),?_⟩;exact HBw3.out.trans ((Hb4.out.mono (by have:=HBw3.out.size;omega)).trans ((hup1.trans hup2 (λ_ h=>.inl h)).toLow (by omega) (by rintro k rfl;omega)))
section
variable {P:Program} {ops:Array Oper} {Q Q':Exit->Act->World->Prop}
theorem yA {o:Oper} {a:Act} {w:World} {K:Act->World->Prop} (hp:∀c a w,Q (.panic c) a w->Q' (.panic c) a w)(hL:LetsOut Q->LetsOut Q')(hh:o.wp P a w K Q):o.wp P a w K Q':=by
 unfold Oper.wp at*;generalize (execOp a.eval o).run P w=r at*;cases r with
 | ok n w'=>
  cases n <;> simp only[Oper.upon]at hh ⊢ <;>
   first
    | exact hh
    | exact Calls.mono hh (λe w'' he=>by cases e <;> first | exact he | exact hp _ _ _ he | exact hL he)
 | halt x w'=>cases x <;> simp only[Oper.upon]at hh ⊢ <;> first | exact hh | exact hp _ _ _ hh
def rL (K:Act->World->Prop)(Q:Exit->Act->World->Prop):Exit->Act->World->Prop
 | .normal,a,w=>K a w
 | e,a,w=>Q e a w
theorem nO {i:Nat} {o:Oper} {K:Act->World->Prop} {a:Act} {w:World} (hi:ops[i]? =some o)(hg:o.guard=none)(h:wpList P ops (rL K Q) [o] a w):wpOp P ops Q i K a w:=by
 unfold wpOp;simp only[hi,Region.wanted,hg,if_true];unfold wpList at h;simp only[Region.wanted,hg,if_true]at h;have hL:LetsOut (rL K Q)->LetsOut Q:=id;rcases h with h | ⟨h1,h2⟩
 . exact .inl (yA (λ_ _ _ h=>h) hL h)
 exact .inr ⟨h1,hL h2⟩
end
end Go.Proofs.Ytiaoabfndnidiaa