/-
 Part 7 of the proof over the checker:walks and plain laws.
-/
import Derived.Test.YtiaoabfndnidiaaMF
set_option maxRecDepth 100000
set_option maxHeartbeats 8000000
set_option linter.unusedSimpArgs false
set_option linter.unusedVariables false
namespace Go.Proofs.Ytiaoabfndnidiaa
open Go.RowKit
abbrev Mt:=List (Int × Tm)
def Mt.get:Mt->Int->Option Tm
 | [],_=>none
 | p::r,x=>if p.1=x then some p.2 else Mt.get r x
def Mt.Ok (m:Mt):Prop:=(m.map (·.1)).Nodup
theorem Mt.get_append (m k:Mt)(x:Int):Mt.get (m++k) x=match m.get x with | some t=>some t | none=>k.get x:=by
 induction m with
 | nil=>rfl
 | cons p r ih=>
  simp only[List.cons_append,Mt.get];by_cases h:p.1=x
  . simp[h]
  simp[h,ih]
theorem Mt.get_none {m:Mt} {x:Int}:m.get x=none↔x∉m.map (·.1):=by
 induction m with
 | nil=>simp[Mt.get]
 | cons p r ih=>
  simp only[Mt.get,List.map_cons,List.mem_cons,not_or];by_cases h:p.1=x
  . simp[h]
  have h2:¬x=p.1:=λe=>h e.symm
  simp[h,h2,ih]
theorem Mt.get_bind {m:Mt} {f:Int} {t:Tm} (h:m.get f=none)(x:Int):Mt.get (m++[(f,t)]) x=if x=f then some t else m.get x:=by
 rw[Mt.get_append];by_cases hx:x=f
 . subst hx;simp[h,Mt.get]
 have:¬f=x:=λe=>hx e.symm
 rw[if_neg hx];cases m.get x <;> simp[Mt.get,this]
theorem Mt.Ok.bind {m:Mt} {f:Int} {t:Tm} (h:m.Ok)(hf:m.get f=none):Mt.Ok (m++[(f,t)]):=by
 unfold Mt.Ok;rw[List.map_append,List.nodup_append];refine⟨h,by simp,λa ha b hb=>?_⟩;simp at hb
 rintro rfl;rw[hb]at ha;exact Mt.get_none.1 hf ha
theorem Mt.Ok.take {m:Mt} (h:m.Ok)(k:Nat):Mt.Ok (m.take k):=by
 unfold Mt.Ok;rw[List.map_take];exact h.sublist (List.take_sublist _ _)
mutual
def cA:Mt->Tm->Tm->Bool × Mt
 | m,.mk f xs,.mk g ys=>
  if f<0 then
   (match m.get f with
    | some x=>(dZ x (.mk g ys),m)
    | none=>(true,m++[(f,.mk g ys)]))
  else if f=g then(if xs.length=ys.length then cJ m xs ys else(false,m))else(false,m)
def cJ:Mt->List Tm->List Tm->Bool × Mt
 | m,x::xs,y::ys=>if (cA m x y).1=true then cJ (cA m x y).2 xs ys else(false,(cA m x y).2)
 | m,_,_=>(true,m)
end
theorem qS:∀{m:Mt} {xs ys:List Tm},xs.length=ys.length->eI cA m xs ys=cJ m xs ys
 | m,[],[],_=>by simp[eI,cJ]
 | m,x::xs,y::ys,h=>by
  rw[eI,cJ];rw[qS (m:=(cA m x y).2) (xs:=xs) (ys:=ys) (by simpa using h)]
 | m,[],_::_,h=>by simp at h
 | m,_::_,[],h=>by simp at h
theorem wZ (m:Mt)(xs ys:List Tm):cM cA m xs ys=if xs.length=ys.length then cJ m xs ys else(false,m):=by
 unfold cM;by_cases h:xs.length=ys.length
 . rw[if_pos h,if_pos h,qS h]
 rw[if_neg h,if_neg h]
mutual
theorem hC:∀(t:Tm) (m:Mt) (u:Tm),∃k:Mt,(cA m t u).2=m++k/\k.length<=aK t
 | .mk f xs,m,.mk g ys=>by
  rw[cA];split
  . cases m.get f with
    | some x=>exact⟨[],by simp⟩
    | none=>exact⟨[(f,.mk g ys)],by simp[aK]⟩
  split
  . split
    . obtain⟨k,h1,h2⟩:=mV xs m ys;exact⟨k,h1,by simp only[aK];omega⟩
    exact⟨[],by simp⟩
  exact⟨[],by simp⟩
theorem mV:∀(xs:List Tm) (m:Mt) (ys:List Tm),∃k:Mt,(cJ m xs ys).2=m++k/\k.length<=aI xs
 | [],m,_=>⟨[],by simp[cJ]⟩
 | _::_,m,[]=>⟨[],by simp[cJ]⟩
 | x::xs,m,y::ys=>by
  rw[cJ];obtain⟨k,h1,h2⟩:=hC x m y;split
  . obtain⟨k2,h3,h4⟩:=mV xs (cA m x y).2 ys;exact⟨k++k2,by rw[h3,h1,List.append_assoc],by simp only[List.length_append,aI];omega⟩
  exact⟨k,h1,by simp only[aI];omega⟩
end
def bH (m:Mt)(p t:Tm):Bool × Mt:=if (cA m p t).1=true then cA m p t else(false,m)
theorem fQ (m:Mt)(p t:Tm):∃k:Mt,(bH m p t).2=m++k/\k.length<=aK p:=by
 unfold bH;split
 . exact hC p m t
 exact⟨[],by simp⟩
def eL (m:Mt)(p l:Lt)(turned:Bool):Bool × Mt:=
 if p.neg≠l.neg\/dI p≠dI l then(false,m)
 else if (bH m p.l (if turned then l.r else l.l)).1=true/\(bH (bH m p.l (if turned then l.r else l.l)).2 p.r (if turned then l.l else l.r)).1=true then
  (true,(bH (bH m p.l (if turned then l.r else l.l)).2 p.r (if turned then l.l else l.r)).2)
 else(false,m)
theorem aD4 (m:Mt)(p l:Lt)(b:Bool):∃k:Mt,(eL m p l b).2=m++k/\k.length<=aK p.l+aK p.r:=by
 unfold eL;generalize (if b then l.r else l.l)=s;generalize (if b then l.l else l.r)=t;by_cases h:p.neg≠l.neg\/dI p≠dI l
 . rw[if_pos h];exact⟨[],by simp⟩
 rw[if_neg h];by_cases h2:(bH m p.l s).1=true/\(bH (bH m p.l s).2 p.r t).1=true
 . rw[if_pos h2];obtain⟨k1,h1,h2⟩:=fQ m p.l s;obtain⟨k2,h3,h4⟩:=fQ (bH m p.l s).2 p.r t;exact⟨k1++k2,by show (bH _ _ _).2=_;rw[h3,h1,List.append_assoc],by simp only[List.length_append];omega⟩
 rw[if_neg h2];exact⟨[],by simp⟩
-- Its variables are numbered below 48.
mutual
def eV:Tm->Bool
 | .mk f xs=>decide (-48<=f)&&iL xs
def iL:List Tm->Bool
 | []=>true
 | x::xs=>eV x&&iL xs
end
theorem tN:∀{xs:List Tm} {k:Nat},iL xs=true->(h:k<xs.length)->eV xs[k]=true
 | x::xs,0,h,_=>by rw[iL]at h;simp at h;exact h.1
 | x::xs,k+1,h,hk=>by rw[iL]at h;simp at h;exact tN h.2 (by simpa using hk)
theorem oT:∀(n:Nat) (l:List Int),l.Nodup->(∀x∈l,-(n:Int)<=x/\x<0)->l.length<=n
 | 0,l,_,h=>by
  cases l with
  | nil=>simp
  | cons x l=>have:=h x (by simp);omega
 | n+1,l,hn,h=>by
  have hn':(l.erase (-((n+1:Nat):Int))).Nodup:=hn.sublist (List.erase_sublist ..);have ih:=oT n (l.erase (-((n+1:Nat):Int))) hn' (λx hx=>by
   have h1:=(List.Nodup.mem_erase_iff hn).1 hx;have h2:=h x h1.2;have h3:=h1.1;omega)
  by_cases hm: -((n+1:Nat):Int)∈l
  . rw[List.length_erase_of_mem hm]at ih;omega
  rw[List.erase_of_not_mem hm]at ih;omega
/-! ## In memory -/
def dS (m:Mt):List (List Value):=m.map λp=>[.int .i64 p.1]
structure MtR (B bm gm:Nat)(m:Mt)(vo:Value)(vals:Int->Value)(w:World):Prop where
 box:aL bm 122 (.map (some gm)) vo w
 own:Own w B 3 1 vo (dS m)
 map:bK w gm cE (λx=>(m.get x).map λt=>.agg #[.int .i64 t.fn,vals x])
 rd:∀x t,m.get x=some t->Rd w B (.sl 2 (aH t.args)) (vals x)
 ok:m.Ok
 neg:∀p∈m,(-48:Int)<=p.1/\p.1<0
def MtI (B bm gm:Nat)(m:Mt)(w:World):Prop:=∃vo vals,MtR B bm gm m vo vals w
def MtF (bm gm:Nat)(w:World)(k:Nat):Prop:=k=bm\/k=gm\/∃v,w.cell? ⟨bm,1,none⟩=some v/\v.ownBlock=some k
section
variable {B bm gm:Nat} {m:Mt} {vo:Value} {vals:Int->Value} {w w':World}
theorem MtR.low (h:MtR B bm gm m vo vals w)(hB:B<=w.heap.size)(hb:Below w.heap.size w w'):MtR B bm gm m vo vals w':=
 ⟨h.box.low hb,h.own.low hb,h.map.low hb,λx t hx=>(h.rd x t hx).low hb hB,h.ok,h.neg⟩
theorem MtR.f_iff (h:MtR B bm gm m vo vals w)(k:Nat):MtF bm gm w k↔(k=bm\/k=gm\/vo.ownBlock=some k):=by
 have hc:=h.box.cells.2.1;unfold MtF;constructor
 . rintro(e | e | ⟨v,h1,h2⟩)
   . exact .inl e
   . exact .inr (.inl e)
   rw[hc]at h1;obtain rfl:=Option.some.inj h1;exact .inr (.inr h2)
 rintro(e | e | e)
 . exact .inl e
 . exact .inr (.inl e)
 exact .inr (.inr ⟨vo,hc,e⟩)
theorem MtR.lt (h:MtR B bm gm m vo vals w) {k:Nat} (hk:MtF bm gm w k):k<w.heap.size:=by
 rcases(h.f_iff k).1 hk with rfl | rfl | e
 . exact h.box.lt
 . exact h.map.lt
 exact(h.own.lt k e).2
theorem MtR.dis (h:MtR B bm gm m vo vals w):bm≠gm/\vo.ownBlock≠some bm/\vo.ownBlock≠some gm:=by
 obtain⟨es,ck,kv,hg,_⟩:=h.map;refine⟨?_,h.own.ne_cells h.box (by decide),h.own.ne_map hg⟩;rintro rfl;have:=h.box;unfold aL at this;rw[hg]at this;injection this with this
 cases this
theorem MtI.ok (h1:B<=bm)(h2:B<=gm):StF B (MtF bm gm) (MtI B bm gm) where
 low s w w' h hb:=by
  obtain⟨vo,vals,h⟩:=h;have hB:B<=w.heap.size:=Nat.le_trans h1 (Nat.le_of_lt h.box.lt);have h':=h.low hB hb;exact⟨⟨vo,vals,h'⟩,λk hk=>(h.f_iff k).2 ((h'.f_iff k).1 hk)⟩
 lt s w k h hk:=by obtain⟨vo,vals,h⟩:=h;exact h.lt hk
 ge s w k h hk:=by
  obtain⟨vo,vals,h⟩:=h;rcases(h.f_iff k).1 hk with rfl | rfl | e
  . exact h1
  . exact h2
  exact(h.own.lt k e).1
theorem MtR.empty (hbox:aL bm 122 (.map (some gm)) (.slice none 0 0) w)(hm:w.heap[gm]? =some (.map #[] 0)):MtR B bm gm [] (.slice none 0 0) (λ_=>undef) w:=
 ⟨hbox,Own.nil _ _ _ _,⟨#[],0,[],hm,rfl,λ_=>rfl,by simp,by simp,by simp⟩,(λx t h=>by cases h),by simp[Mt.Ok],by simp⟩
theorem MtR.few (h:MtR B bm gm m vo vals w):m.length<=48:=by
 have:=oT 48 (List.map (λp:Int × Tm=>p.1) m) h.ok (λx hx=>by obtain⟨p,hp,rfl⟩:=List.mem_map.1 hx;exact h.neg p hp);simpa using this
theorem MtR.bind (h:MtR B bm gm m vo vals w) {f:Int} {t:Tm} {v vo':Value} {w1 w2 w3:World} (hf:m.get f=none)(hfk:(-48:Int)<=f/\f<0)(hg:Rd w B (.sl 2 (aH t.args)) v)(hgt:B<=bm)(hgb:B<=gm)
 (hm:bK w1 gm cE (λy=>if y=f then some (.agg #[.int .i64 t.fn,v])else(m.get y).map λt=>.agg #[.int .i64 t.fn,vals y])) (hu1:Upd w w1 (λk=>k=gm)) (hb:Below w1.heap.size w1 w2)
 (ho:Own w3 B 3 1 vo' (dS m++[[.int .i64 f]])) (hu3:Upd w2 w3 (λk=>vo.ownBlock=some k)) (hat:vo'.ownBlock=vo.ownBlock\/vo'.ownBlock=some w2.heap.size):
 Stp (MtF bm gm) (MtI B bm gm) (m++[(f,t)]) w (w3.setCell ⟨bm,1,none⟩ vo'):=by
 obtain⟨d1,d2,d3⟩:=h.dis;have hz1:=hu1.size;have hz2:=hb.size;have hz3:=hu3.size;have hbl:=h.box.lt;have hgl:=h.map.lt;have hBw:B<=w.heap.size:=by omega
 have hbox3:aL bm 122 (.map (some gm)) vo w3:=((h.box.upd hu1 d1).low hb).upd hu3 d2;have hat2:∀g,vo'.ownBlock=some g->vo.ownBlock=some g\/w.heap.size<=g:=λg e=>by
  rcases hat with h1 | h1
  . exact .inl (h1 ▸ e)
  rw[h1]at e;injection e with e;exact .inr (by omega)
 have hnb:vo'.ownBlock≠some bm:=λe=>by
  rcases hat2 bm e with e | e
  . exact d2 e
  omega
 have hall:Upd w (w3.setCell ⟨bm,1,none⟩ vo') (λk=>k=bm\/k=gm\/vo.ownBlock=some k):=
  (((hu1.more λi e=>.inl (.inr (.inl e))).trans (Upd.low hb (λ_=>False)) (λ_ e=>e.elim)).trans hu3 (λi e=>.inl (.inr (.inr e)))).setCell _ _ (.inl (.inl rfl))
 have hbox4:=hbox3.put1 vo';have hR:MtR B bm gm (m++[(f,t)]) vo' (λy=>if y=f then v else vals y) (w3.setCell ⟨bm,1,none⟩ vo'):=by
  refine⟨hbox4,?_,?_,?_,h.ok.bind hf,λp hp=>by simp only[List.mem_append,List.mem_singleton]at hp;rcases hp with hp | rfl;exact h.neg p hp;exact hfk⟩
  . unfold dS at ho ⊢;rw[List.map_append];exact ho.upd (aM _) (λg e e2=>hnb (e2 ▸ e))
  . refine((((hm.low hb).upd hu3 d3).upd (aM _) (Ne.symm d1))).congr λy=>?_
    rw[Mt.get_bind hf];by_cases hy:y=f <;> simp[hy]
  intro x u hx;rw[Mt.get_bind hf]at hx;refine hall.keepRd ?_ hBw (λk e=>?_)
  . by_cases hy:x=f
    . simp only[hy,if_true,Option.some.injEq]at hx ⊢;subst hx;exact hg
    simp only[hy,if_false]at hx ⊢;exact h.rd x u hx
  rcases e with rfl | rfl | e
  . exact hgt
  . exact hgb
  exact(h.own.lt k e).1
 refine⟨⟨_,_,hR⟩,hall.more λi e=>.inl ((h.f_iff i).2 e),λk hk=>?_⟩;rcases(hR.f_iff k).1 hk with e | e | e
 . exact .inl ((h.f_iff k).2 (.inl e))
 . exact .inl ((h.f_iff k).2 (.inr (.inl e)))
 exact(hat2 k e).imp (λe=>(h.f_iff k).2 (.inr (.inr e))) id
def iD (B bm gm cm cw:Nat)(m:Mt)(w:World):Prop:=MtI B bm gm m w/\w.heap[cm]? =some (.cells #[.pointer (some ⟨bm,0,none⟩)] 120 (0,0))/\
 w.heap[cw]? =some (.cells #[.func (.func 95) #[] #[.pointer (some ⟨cm,0,none⟩),.pointer (some ⟨cw,0,none⟩)]] 98 (0,0))
theorem iD.ok {cm cw:Nat} (h1:B<=bm)(h2:B<=gm):StF B (MtF bm gm) (iD B bm gm cm cw) where
 low s w w' h hb:=by
  obtain⟨h,hc,hw⟩:=h;obtain⟨k1,k2⟩:=(MtI.ok h1 h2).low s w w' h hb;exact⟨⟨k1,(hb.block _ (eA hc)).trans hc,(hb.block _ (eA hw)).trans hw⟩,k2⟩
 lt s w k h hk:=(MtI.ok h1 h2).lt s w k h.1 hk
 ge s w k h hk:=(MtI.ok h1 h2).ge s w k h.1 hk
theorem iD.ne {cm cw:Nat} (h:iD B bm gm cm cw m w):¬MtF bm gm w cm/\¬MtF bm gm w cw:=by
 obtain⟨⟨vo,vals,h⟩,hc,hw⟩:=h;obtain⟨es,ck,kv,hg,_⟩:=h.map;have hb:=h.box;unfold aL at hb;constructor
 . intro hk;rcases(h.f_iff cm).1 hk with rfl | rfl | e
   . rw[hc]at hb;injection hb with hb;injection hb with hb;simp at hb
   . rw[hc]at hg;injection hg with hg;cases hg
   exact h.own.ne_cells hc (by decide) e
 intro hk;rcases(h.f_iff cw).1 hk with rfl | rfl | e
 . rw[hw]at hb;injection hb with hb;injection hb with hb;simp at hb
 . rw[hw]at hg;injection hg with hg;cases hg
 exact h.own.ne_cells hw (by decide) e
theorem iD.stp {cm cw:Nat} {m':Mt} (h:iD B bm gm cm cw m w)(hs:Stp (MtF bm gm) (MtI B bm gm) m' w w'):Stp (MtF bm gm) (iD B bm gm cm cw) m' w w':=
 ⟨⟨hs.st,(hs.keep (eA h.2.1) h.ne.1).1.trans h.2.1,(hs.keep (eA h.2.2) h.ne.2).1.trans h.2.2⟩,hs.upd,hs.grow⟩
theorem iD.stp' {cm cw:Nat} {m':Mt} (hs:Stp (MtF bm gm) (iD B bm gm cm cw) m' w w'):Stp (MtF bm gm) (MtI B bm gm) m' w w':=⟨hs.st.1,hs.upd,hs.grow⟩
end
theorem vE {σ:Type} (B:Nat)(F:World->Nat->Prop)(I:σ->World->Prop)(hF:StF B F I)(bx:Array Value)(p:σ->Tm->Tm->Bool × σ)(xs ys:List Tm)(vx vy:Value)(s:σ)(w:World)
 (hx:Rd w B (.sl 2 (aH xs)) vx) (hy:Rd w B (.sl 2 (aH ys)) vy) (hB:B<=w.heap.size) (hs:I s w)
 (hclo:∀k (hk:k<xs.length) (hk':k<ys.length) s1 w1 e1 e2,w.heap.size<=w1.heap.size->I s1 w1->TmV w1 B xs[k] e1->TmV w1 B ys[k] e2->Calls Try.prog 96 (#[e1,e2]++bx) w1 (StB F I (p s1 xs[k] ys[k]) w1)):
 Calls Try.prog 82 #[vx,vy,.func (.func 96) #[] bx] w (StB F I (cM p s xs ys) w):=by
 obtain⟨Ax,cx,rfl,hcx,hnx,hmx⟩:=hx.tm_form;obtain⟨Ay,cy,rfl,hcy,hny,hmy⟩:=hy.tm_form;have HF:=Lh hF;have HX:=Lh hx;have HY:=Lh hy;have HS:=Lh hs;have Hclo:=Lh hclo;clear hF hx hy hs hclo;by_cases hl:xs.length=ys.length
 . have he:cM p s xs ys=eI p s xs ys:=by unfold cM;rw[if_pos hl]
   obtain⟨r,hr⟩:∃r,eI p s xs ys=r:=⟨_,rfl⟩;rw[he,hr];have HR:=Lh hr;clear hr;have q:(((xs.length:Nat):Int) !=((ys.length:Nat):Int))=false:=by rw[hl];simp
   have Hl:=Lh hl;clear he hl;go_enter Try.func82,Try.ntmps82;go_wp2_with fail;go_loopw [17] (λi wr=>∃(k:Nat) (s1:σ),i=.int .i64 k/\k<=xs.length/\r=eI p s1 (xs.drop k) (ys.drop k)/\Stp F I s1 w wr) (λi _=>xs.length-(intOf i).toNat)
   case atStart=>exact⟨0,s,rfl,Nat.zero_le _,HR.out.symm,Stp.refl HS.out⟩
   obtain⟨k,s1,rfl,hk,hgo,hst⟩:=hrel;have hzr:=hst.upd.size;have Hgo:=Lh hgo;have Hst:=Lh hst;clear hgo hst;by_cases hlt:k<xs.length
   . have hlt2:k<ys.length:=(by have:=Hl.out;omega);have hat:=pF (p:=p) (s:=s1) hlt hlt2;obtain⟨ab1,off1,f1,zs1,A1,c1,rfl,hxk,hb1,k0,k1,hr1⟩:=(Hst.out.rd HF.out HS.out HX.out hB).tm_at hlt;obtain⟨ab2,off2,f2,zs2,A2,c2,rfl,hyk,hb2,l0,l1,hr2⟩:=(Hst.out.rd HF.out HS.out HY.out hB).tm_at hlt2;have hcl:∀w1,Below wr.heap.size wr w1->Calls Try.prog 96 (#[.agg #[.int .i64 f1,.slice A1 zs1.length c1],.agg #[.int .i64 f2,.slice A2 zs2.length c2]]++bx) w1 (StB F I (p s1 xs[k] ys[k]) w1):=by
      intro w1 hb;refine Hclo.out k hlt hlt2 s1 w1 _ _ (Nat.le_trans hzr hb.size) (HF.out.low _ _ _ Hst.out.st hb).1 ?_ ?_
      . rw[hxk];exact⟨A1,c1,rfl,hr1.low hb (by omega)⟩
      rw[hyk];exact⟨A2,c2,rfl,hr2.low hb (by omega)⟩
     have Hcl:=Lh hcl;have Hat:=Lh hat;have hq1:ab1<wr.heap.size:=(by omega);have hq2:ab2<wr.heap.size:=(by omega);clear hcl hxk hyk hr1 hr2 hat;obtain⟨⟨b,s2⟩,hp⟩:∃r,p s1 xs[k] ys[k]=r:=⟨_,rfl⟩;rw[hp]at Hcl Hat;clear hp;cases b with
     | true=>
      go_wp2_with (
       go_at_call 96
       refine(Hcl.out _ ((aD wr _).trans ((aD _ _).mono (by simp)))).mono ?_;rintro e w1 ⟨rfl,hst2⟩;have Hst2:=Lh ((HF.out.step Hst.out.st ((aD wr _).trans ((aD _ _).mono (by simp)))).trans hst2);clear hst2)
      go_roundw
      case rel=>exact⟨k+1,s2,by go_num,by omega,by rw[Hgo.out,Hat.out];simp,Hst.out.trans Hst2.out⟩
      case measure=>simp[intOf];omega
     | false=>
      go_wp2_with (
       go_at_call 96
       refine(Hcl.out _ ((aD wr _).trans ((aD _ _).mono (by simp)))).mono ?_;rintro e w1 ⟨rfl,hst2⟩;have Hst2:=Lh ((HF.out.step Hst.out.st ((aD wr _).trans ((aD _ _).mono (by simp)))).trans hst2);clear hst2)
      go_ret;obtain rfl:r=(false,s2):=by rw[Hgo.out,Hat.out,if_neg (by decide)]
      exact⟨rfl,Hst.out.trans Hst2.out⟩
   have hend:=mK (p:=p) (s:=s1) (xs:=xs) (ys:=ys) (k:=k) (by omega) (by have:=Hl.out;omega);have hres:r=(true,s1):=by rw[Hgo.out,hend]
   have Hres:=Lh hres;clear hend hres;go_wp2_with fail;go_ret;rw[Hres.out];exact⟨rfl,Hst.out⟩
 have he:cM p s xs ys=(false,s):=by unfold cM;rw[if_neg hl]
 rw[he];have q:(((xs.length:Nat):Int) !=((ys.length:Nat):Int))=true:=by rw[bne_iff_ne];omega
 clear he hl;go_enter Try.func82,Try.ntmps82;go_wp2_with fail;go_ret;exact⟨rfl,Stp.refl HS.out⟩
theorem aH9 (B bm gm cm cw:Nat)(hgt:B<=bm)(hgb:B<=gm)(x y:Tm)(m:Mt)(w1:World)(e1 e2:Value)(hs:iD B bm gm cm cw m w1)(h1:TmV w1 B x e1)(h2:TmV w1 B y e2)(hB:B<=w1.heap.size)
 (ih:∀(vx vy:Value) (w:World),Rd w B (.sl 2 (aH x.args)) vx->Rd w B (.sl 2 (aH y.args)) vy->B<=w.heap.size->iD B bm gm cm cw m w->
  Calls Try.prog 95 #[.agg #[.int .i64 x.fn,vx],.agg #[.int .i64 y.fn,vy],.pointer (some ⟨cm,0,none⟩),.pointer (some ⟨cw,0,none⟩)] w (StB (MtF bm gm) (iD B bm gm cm cw) (cA m (.mk x.fn x.args) (.mk y.fn y.args)) w)):
 Calls Try.prog 96 (#[e1,e2]++ #[.pointer (some ⟨cw,0,none⟩)]) w1 (StB (MtF bm gm) (iD B bm gm cm cw) (cA m x y) w1):=by
 obtain⟨A1,c1,rfl,hr1⟩:=h1;obtain⟨A2,c2,rfl,hr2⟩:=h2;rw[fY,fY]at ih;obtain⟨r,hr⟩:∃r,cA m x y=r:=⟨_,rfl⟩;rw[hr]at ih ⊢;generalize x.fn=f1 at*;generalize x.args=zs1 at*;generalize y.fn=f2 at*;generalize y.args=zs2 at*;have hbn:=λo=>cell_of_row w1 cw o _ _ _ hs.2.2
 have hln:=eA hs.2.2;have Ih:=Lh ih;have R1:=Lh hr1;have R2:=Lh hr2;have HS:=Lh hs;clear ih hr1 hr2 hs hr;go_enter Try.func96,Try.ntmps96;go_upto_region 1 with fail
 obtain⟨hx1,hx2,hB3,hz3⟩:=aO w1 (.cells #[.int .i64 f1,.slice A1 zs1.length c1] 51) (.cells #[.int .i64 f2,.slice A2 zs2.length c2] 51);generalize (w1.alloc (.cells #[.int .i64 f1,.slice A1 zs1.length c1] 51)).alloc (.cells #[.int .i64 f2,.slice A2 zs2.length c2] 51)=w3 at hx1 hx2 hB3 hz3 ⊢;have hbn3:=(hB3.cell (p:=⟨cw,0,none⟩) hln).trans (hbn 0);have k1:=λo=>cell_of_row w3 w1.heap.size o _ _ _ hx1
 have k2:=λo=>cell_of_row w3 (w1.heap.size+1) o _ _ _ hx2
 have hI3:=(iD.ok (cm:=cm) (cw:=cw) hgt hgb).step HS.out hB3;have HI3:=Lh hI3;have HB3:=Lh hB3;clear hx1 hx2 hB3 hbn hI3;simp only[List.getElem?_toArray,List.getElem?_cons_zero]at hbn3;go_wp2_with (
  go_at_call 95
  refine(Ih.out _ _ _ (R1.out.low HB3.out hB) (R2.out.low HB3.out hB) (by omega) HI3.out.st).mono ?_;rintro e w2 ⟨rfl,hst⟩)
 go_ret;exact⟨rfl,HI3.out.trans hst⟩
theorem aA2 (d B bm gm cm cw:Nat)(hgt:B<=bm)(hgb:B<=gm):∀(f g:Int) (xs ys:List Tm) (vx vy:Value) (m:Mt) (w:World),aI xs<d->eV (.mk f xs)=true->Rd w B (.sl 2 (aH xs)) vx->Rd w B (.sl 2 (aH ys)) vy->B<=w.heap.size->iD B bm gm cm cw m w->
 Calls Try.prog 95 #[.agg #[.int .i64 f,vx],.agg #[.int .i64 g,vy],.pointer (some ⟨cm,0,none⟩),.pointer (some ⟨cw,0,none⟩)] w (StB (MtF bm gm) (iD B bm gm cm cw) (cA m (.mk f xs) (.mk g ys)) w):=by
 have hF:=iD.ok (cm:=cm) (cw:=cw) hgt hgb;have HF:=Lh hF;clear hF;induction d with
 | zero=>intro f g xs ys vx vy m w h;omega
 | succ d ih=>
 intro f g xs ys vx vy m w hd hml hx hy hB hs;have hpt:(-48:Int)<=f/\iL xs=true:=by rw[eV]at hml;simpa using hml
 obtain⟨Ax,cx,rfl,hcx,hnx,hmx⟩:=hx.tm_form;obtain⟨Ay,cy,rfl,hcy,hny,hmy⟩:=hy.tm_form;obtain⟨r,hr⟩:∃r,cA m (.mk f xs) (.mk g ys)=r:=⟨_,rfl⟩;rw[hr];have HX:=Lh hx;have HY:=Lh hy;have HS:=Lh hs;have HR:=Lh hr;have Hih:=Lh ih;clear hx hy hs hr ih;by_cases hf:f<0
 . cases hm:m.get f with
   | some x=>
    obtain⟨xf,xa⟩:=x;have hres:r=(dZ (.mk xf xa) (.mk g ys),m):=(by rw[<-HR.out,cA,if_pos hf,hm]);obtain⟨b,hb⟩:∃b,dZ (.mk xf xa) (.mk g ys)=b:=⟨_,rfl⟩;rw[hb]at hres;have Hres:=Lh hres;have Hb:=Lh hb;go_enter Try.func95,Try.ntmps95;go_upto_region 1 with fail
    obtain⟨hx1,hx2,hB3,hz3⟩:=aO w (.cells #[.int .i64 f,.slice Ax xs.length cx] 87) (.cells #[.int .i64 g,.slice Ay ys.length cy] 87);generalize (w.alloc (.cells #[.int .i64 f,.slice Ax xs.length cx] 87)).alloc (.cells #[.int .i64 g,.slice Ay ys.length cy] 87)=w3 at hx1 hx2 hB3 hz3 ⊢;have hI3:=HF.out.step HS.out hB3;have HI3:=Lh hI3;have HX1:=Lh (show aL w.heap.size 87 (.int .i64 f) (.slice Ax xs.length cx) w3 from hx1);have HX2:=Lh (show aL (w.heap.size+1) 87 (.int .i64 g) (.slice Ay ys.length cy) w3 from hx2);have k1:=λo=>cell_of_row w3 w.heap.size o _ _ _ hx1
    have k2:=λo=>cell_of_row w3 (w.heap.size+1) o _ _ _ hx2
    have HB3:=Lh hB3;have HX3:=Lh (HX.out.low hB3 hB);have HY3:=Lh (HY.out.low hB3 hB);clear hx1 hx2 hB3 hI3;obtain⟨⟨vo,vals,hMt⟩,hcm,hcw⟩:=HI3.out.st;have hrx:=hMt.rd f _ hm;simp only[Tm.args]at hrx;obtain⟨A7,c7,hv7,-,-,-⟩:=hrx.tm_form;rw[hv7]at hrx;have hlk:∀w',Below w3.heap.size w3 w'->(Instr.lookup 109 (.map (some gm)) (.int .i64 f) true).run Try.prog w'=.ok (.tuple #[.agg #[.int .i64 xf,.slice A7 xa.length c7],.bool true]) w':=λw' hb=>by
     have hlk:=(hMt.map.low hb).lookup_ok fT Try.underlying109 (iT w') f;rw[hm]at hlk;simp only[Option.map_some,Option.getD_some,Option.isSome_some,hv7,Tm.fn,cE]at hlk;exact hlk
    have Hlk:=Lh hlk;have hbs:=hMt.box;have Hbs:=Lh hbs;have Hrx:=Lh hrx;have Hcm:=Lh hcm;have HMt:=Lh hMt;clear hres hb hrx hbs hMt hcm hcw hm hv7 hlk;go_upto_region 2 with fail
    refine rg 13 (λ_ w'=>Below w3.heap.size w3 w') ?_;intro wd hwd hbd;refine⟨?_,λhS=>?_⟩
    . exact hwd ▸ hbd
    refine tk 0 (.pointer (some ⟨bm,0,none⟩)) hS ?_ λhS=>?_
    . intro w' L hn hw;have o0:=(hw.cell (p:=⟨cm,0,none⟩) (eA Hcm.out)).trans (cell_of_one Hcm.out);simp[execOp,go_sem,o0]
    refine ta 1 (.pointer (some ⟨bm,0,none⟩)) hS λhS=>?_
    refine ta 2 (.pointer (some ⟨bm,0,none⟩)) hS λhS=>?_
    refine tk 3 (.map (some gm)) hS ?_ λhS=>?_
    . intro w' L hn hw;have o3:=(Hbs.out.low hw).cells.1;simp[execOp,go_sem,o3]
    refine ta 4 (.pointer (some ⟨w.heap.size,0,none⟩)) hS λhS=>?_
    refine tk 5 (.int .i64 f) hS ?_ λhS=>?_
    . intro w' L hn hw;have o5:=(HX1.out.low hw).cells.1;simp[execOp,go_sem,o5]
    refine tk 6 (.tuple #[.agg #[(.int .i64 xf),(.slice A7 xa.length c7)],.bool true]) hS ?_ λhS=>?_
    . intro w' L hn hw;simp[execOp,go_sem,Hlk.out _ hw]
    refine ta 7 (.tuple #[.agg #[(.int .i64 xf),(.slice A7 xa.length c7)],.bool true]) hS λhS=>?_
    refine ta 8 (.agg #[(.int .i64 xf),(.slice A7 xa.length c7)]) hS λhS=>?_
    refine ta 9 (.bool true) hS λhS=>?_
    refine so 10 ?_;refine aE (v:=.pointer (some ⟨wd.heap.size,0,none⟩)) (w':=wd.alloc (.cells #[.int .i64 0,.slice none 0 0] 87)) (by simp[execOp,go_sem]) ?_;have hb4:=aD wd (.cells #[.int .i64 0,.slice none 0 0] 87);have hx4:aL wd.heap.size 87 (.int .i64 0) (.slice none 0 0) (wd.alloc (.cells #[.int .i64 0,.slice none 0 0] 87)):=heap_alloc_new wd _;generalize wd.alloc (.cells #[.int .i64 0,.slice none 0 0] 87)=w4 at hb4 hx4 ⊢;refine gS ?_ λhS=>?_
    . exact hS.trans (hb4.mono hS.size)
    refine so 11 ?_;obtain⟨q0,q1,q2⟩:=hx4.cells;have hset:=hx4.set (.int .i64 xf) (.slice A7 xa.length c7);refine bF (w':=((w4.setCell ⟨wd.heap.size,0,none⟩ ((.int .i64 xf))).setCell ⟨wd.heap.size,1,none⟩ ((.slice A7 xa.length c7)))) (by simp[execOp,go_sem,q0,q1,q2]) ?_;generalize ((w4.setCell ⟨wd.heap.size,0,none⟩ ((.int .i64 xf))).setCell ⟨wd.heap.size,1,none⟩ ((.slice A7 xa.length c7)))=w5 at hset ⊢;have hzd:wd.heap.size=w3.heap.size:=(by rw[hwd]);have hz4:=hb4.size;refine gS ?_ λhS=>?_
    . exact hS.trans (hset.2.toLow (by omega) (by rintro k rfl;omega))
    refine ta 12 (.bool true) hS λhS=>?_
    refine dn ?_;have hb5:=hS;have hs5:=HF.out.step HI3.out.st hb5;have hx5:=hset.1;have hx25:=HX2.out.low hb5;have hx15:=HX1.out.low hb5;have HB5:=Lh hb5;have HS5:=Lh (HI3.out.trans hs5);have HX5:=Lh hx5;have HX15:=Lh hx15;have HX25:=Lh hx25;rw[hzd,hz3]at HX5 ⊢;clear hb5 hs5 hx5 hx25 hx15 hset hb4 hx4 q0 q1 q2 hS hwd hbd hzd hz4;obtain⟨q0,q1,-⟩:=HX5.out.cells;obtain⟨p0,p1,-⟩:=HX25.out.cells;have hz5:=HB5.out.size;go_wp2_with (
     go_at_call 65
     refine(eM (aI xa+1) xf g xa ys _ _ B _ (by omega) (Hrx.out.low HB5.out (by omega)) (HY3.out.low HB5.out (by omega)) (by omega)).mono ?_;rintro e w6 ⟨rfl,hb6⟩;rw[Hb.out])
    go_ret;rw[Hres.out];exact⟨rfl,HS5.out.trans (HF.out.step HS5.out.st hb6)⟩
   | none=>
    have hres:r=(true,m++[(f,.mk g ys)]):=(by rw[<-HR.out,cA,if_pos hf,hm]);have Hres:=Lh hres;have Hm:=Lh hm;go_enter Try.func95,Try.ntmps95;go_upto_region 1 with fail
    obtain⟨hx1,hx2,hB3,hz3⟩:=aO w (.cells #[.int .i64 f,.slice Ax xs.length cx] 87) (.cells #[.int .i64 g,.slice Ay ys.length cy] 87);generalize (w.alloc (.cells #[.int .i64 f,.slice Ax xs.length cx] 87)).alloc (.cells #[.int .i64 g,.slice Ay ys.length cy] 87)=w3 at hx1 hx2 hB3 hz3 ⊢;have hI3:=HF.out.step HS.out hB3;have HI3:=Lh hI3;have HX1:=Lh (show aL w.heap.size 87 (.int .i64 f) (.slice Ax xs.length cx) w3 from hx1);have HX2:=Lh (show aL (w.heap.size+1) 87 (.int .i64 g) (.slice Ay ys.length cy) w3 from hx2);have k1:=λo=>cell_of_row w3 w.heap.size o _ _ _ hx1
    have k2:=λo=>cell_of_row w3 (w.heap.size+1) o _ _ _ hx2
    have HB3:=Lh hB3;have HX3:=Lh (HX.out.low hB3 hB);have HY3:=Lh (HY.out.low hB3 hB);clear hx1 hx2 hB3 hI3;obtain⟨⟨vo,vals,hMt⟩,hcm,hcw⟩:=HI3.out.st;have hlk:∀w',Below w3.heap.size w3 w'->(Instr.lookup 109 (.map (some gm)) (.int .i64 f) true).run Try.prog w'=.ok (.tuple #[.agg #[.int .i64 0,.slice none 0 0],.bool false]) w':=λw' hb=>by
     have hlk:=(hMt.map.low hb).lookup_ok fT Try.underlying109 (iT w') f;rw[hm]at hlk;simp only[Option.map_none,Option.getD_none,Option.isSome_none,cE]at hlk;exact hlk
    have Hlk:=Lh hlk;have hbs:=hMt.box;have hv4:vo.ownBlock≠some w.heap.size:=hMt.own.ne_cells HX1.out (by decide);have hv5:vo.ownBlock≠some (w.heap.size+1):=hMt.own.ne_cells HX2.out (by decide);have Hv4:=Lh hv4;have Hv5:=Lh hv5;have Hbs:=Lh hbs;have Hcm:=Lh hcm;have HMt:=Lh hMt;clear hres hbs hMt hcm hcw hm hlk hv4 hv5;go_upto_region 2 with fail
    refine rg 13 (λ_ w'=>Below w3.heap.size w3 w') ?_;intro wd hwd hbd;refine⟨?_,λhS=>?_⟩
    . exact hwd ▸ hbd
    refine tk 0 (.pointer (some ⟨bm,0,none⟩)) hS ?_ λhS=>?_
    . intro w' L hn hw;have o0:=(hw.cell (p:=⟨cm,0,none⟩) (eA Hcm.out)).trans (cell_of_one Hcm.out);simp[execOp,go_sem,o0]
    refine ta 1 (.pointer (some ⟨bm,0,none⟩)) hS λhS=>?_
    refine ta 2 (.pointer (some ⟨bm,0,none⟩)) hS λhS=>?_
    refine tk 3 (.map (some gm)) hS ?_ λhS=>?_
    . intro w' L hn hw;have o3:=(Hbs.out.low hw).cells.1;simp[execOp,go_sem,o3]
    refine ta 4 (.pointer (some ⟨w.heap.size,0,none⟩)) hS λhS=>?_
    refine tk 5 (.int .i64 f) hS ?_ λhS=>?_
    . intro w' L hn hw;have o5:=(HX1.out.low hw).cells.1;simp[execOp,go_sem,o5]
    refine tk 6 (.tuple #[.agg #[(.int .i64 0),(.slice none 0 0)],.bool false]) hS ?_ λhS=>?_
    . intro w' L hn hw;simp[execOp,go_sem,Hlk.out _ hw]
    refine ta 7 (.tuple #[.agg #[(.int .i64 0),(.slice none 0 0)],.bool false]) hS λhS=>?_
    refine ta 8 (.agg #[(.int .i64 0),(.slice none 0 0)]) hS λhS=>?_
    refine ta 9 (.bool false) hS λhS=>?_
    refine so 10 ?_;refine aE (v:=.pointer (some ⟨wd.heap.size,0,none⟩)) (w':=wd.alloc (.cells #[.int .i64 0,.slice none 0 0] 87)) (by simp[execOp,go_sem]) ?_;have hb4:=aD wd (.cells #[.int .i64 0,.slice none 0 0] 87);have hx4:aL wd.heap.size 87 (.int .i64 0) (.slice none 0 0) (wd.alloc (.cells #[.int .i64 0,.slice none 0 0] 87)):=heap_alloc_new wd _;generalize wd.alloc (.cells #[.int .i64 0,.slice none 0 0] 87)=w4 at hb4 hx4 ⊢;refine gS ?_ λhS=>?_
    . exact hS.trans (hb4.mono hS.size)
    refine so 11 ?_;obtain⟨q0,q1,q2⟩:=hx4.cells;have hset:=hx4.set (.int .i64 0) (.slice none 0 0);refine bF (w':=((w4.setCell ⟨wd.heap.size,0,none⟩ ((.int .i64 0))).setCell ⟨wd.heap.size,1,none⟩ ((.slice none 0 0)))) (by simp[execOp,go_sem,q0,q1,q2]) ?_;generalize ((w4.setCell ⟨wd.heap.size,0,none⟩ ((.int .i64 0))).setCell ⟨wd.heap.size,1,none⟩ ((.slice none 0 0)))=w5 at hset ⊢;have hzd:wd.heap.size=w3.heap.size:=(by rw[hwd]);have hz4:=hb4.size;refine gS ?_ λhS=>?_
    . exact hS.trans (hset.2.toLow (by omega) (by rintro k rfl;omega))
    refine ta 12 (.bool false) hS λhS=>?_
    refine dn ?_;have hb5:=hS;have hs5:=HF.out.step HI3.out.st hb5;have hx5:=hset.1;have hx25:=HX2.out.low hb5;have hx15:=HX1.out.low hb5;have HB5:=Lh hb5;have HS5:=Lh (HI3.out.trans hs5);have HX5:=Lh hx5;have HX15:=Lh hx15;have HX25:=Lh hx25;rw[hzd,hz3]at HX5 ⊢;clear hb5 hs5 hx5 hx25 hx15 hset hb4 hx4 q0 q1 q2 hS hwd hbd hzd hz4;have hz5:=HB5.out.size;have hMt5:=HMt.out.low (by omega) HB5.out;have hcm5:=(HB5.out.block cm (eA Hcm.out)).trans Hcm.out;have hbm5:=hMt5.box;have hne:=HS5.out.st.ne.1;rw[hMt5.f_iff]at hne;have hn1:cm≠bm:=λe=>hne (.inl e)
    have hn2:cm≠gm:=λe=>hne (.inr (.inl e))
    have hn3:vo.ownBlock≠some cm:=λe=>hne (.inr (.inr e))
    obtain⟨hd1,hd2,hd3⟩:=hMt5.dis;have hgl5:=hMt5.map.lt;have hbl5:=hbm5.lt;have hgx1:w.heap.size≠gm:=λe=>by
     obtain⟨es,ck,kv,hg,_⟩:=HMt.out.map;have h1:=HX1.out;unfold aL at h1;rw[e,hg]at h1;injection h1 with h1
     cases h1
    have hgx2:w.heap.size+1≠gm:=λe=>by
     obtain⟨es,ck,kv,hg,_⟩:=HMt.out.map;have h1:=HX2.out;unfold aL at h1;rw[e,hg]at h1;injection h1 with h1
     cases h1
    have HMt5:=Lh hMt5;have Hcm5:=Lh hcm5;have Hbm5:=Lh hbm5;have Hn3:=Lh hn3;have Hd2:=Lh hd2;have Hd3:=Lh hd3;clear hMt5 hcm5 hbm5 hne hn3 hd2 hd3;go_upto_region 5 with fail
    refine rg 8 (λ_ w'=>Upd w5 w' (λb=>b=gm)) ?_;intro wd hwd hbd;refine⟨?_,λhS=>?_⟩
    . exact Upd.low (hwd ▸ hbd) _
    refine tk 0 (.pointer (some ⟨bm,0,none⟩)) hS ?_ λhS=>?_
    . intro w' L hn hw;have o0:=(World.cell?_of_block (a:=⟨cm,0,none⟩) (hw.block cm (eA Hcm5.out) hn2)).trans (cell_of_one Hcm5.out);simp[execOp,go_sem,o0]
    refine ta 1 (.pointer (some ⟨bm,0,none⟩)) hS λhS=>?_
    refine ta 2 (.pointer (some ⟨bm,0,none⟩)) hS λhS=>?_
    refine tk 3 (.map (some gm)) hS ?_ λhS=>?_
    . intro w' L hn hw;have o3:=(Hbm5.out.upd hw hd1).cells.1;simp[execOp,go_sem,o3]
    refine ta 4 (.pointer (some ⟨w.heap.size,0,none⟩)) hS λhS=>?_
    refine tk 5 (.int .i64 f) hS ?_ λhS=>?_
    . intro w' L hn hw;have o5:=(HX15.out.upd hw hgx1).cells.1;simp[execOp,go_sem,o5]
    refine tk 6 (.agg #[.int .i64 g,.slice Ay ys.length cy]) hS ?_ λhS=>?_
    . intro w' L hn hw;have o6:=(HX25.out.upd hw hgx2).cells;simp[execOp,go_sem,o6.1,o6.2.1]
    refine sl 7 ?_;refine cZ rfl (.tmp 29) (.tmp 31) (.tmp 32) rfl fT Try.underlying109 (by simp[go_sem]) f (by simp[go_sem,cE]) (.agg #[.int .i64 g,.slice Ay ys.length cy]) (by simp[go_sem]) (HMt5.out.map.low (hwd ▸ hbd)) ?_;intro w6 hm6 hu6;refine gL ?_ λhS=>?_
    . exact hS.trans hu6 (λ_ h=>.inl h)
    refine dn ?_;have hz6:=hS.size;have Hm6:=Lh hm6;have Hu6:=Lh hS;have hcm6:=(hS.block cm (eA Hcm5.out) hn2).trans Hcm5.out;have hbm6:=Hbm5.out.upd hS hd1;have hx16:=HX15.out.upd hS hgx1;have Hcm6:=Lh hcm6;have Hbm6:=Lh hbm6;have HX16:=Lh hx16;have hown6:=HMt5.out.own.upd hS (λg e e2=>Hd3.out (e2 ▸ e));have Hown6:=Lh hown6;clear hm6 hu6 hS hcm6 hbm6 hx16 hown6 hwd hbd;go_upto_region 6 with fail
    refine rg 12 (λL w'=>Upd w6 w' (λb=>vo.ownBlock=some b\/b=bm)/\(L.getD 11 false=false->Upd w6 w' (λb=>vo.ownBlock=some b))) ?_;intro wd hwd hbd;refine⟨?_,λhS=>?_⟩
    . exact⟨Upd.low (hwd ▸ hbd) _,λ_=>Upd.low (hwd ▸ hbd) _⟩
    refine tk 0 (.pointer (some ⟨bm,0,none⟩)) hS ?_ (λhS=>?_) (hins:=λL w=>by simp only[aB (l:=L) (i:=0) (k:=11) (by decide)])
    . intro w' L hn hw;have n11:=hn.flag 11 (by kernel_rfl);have hw:=hw.2 n11;have o0:=(World.cell?_of_block (a:=⟨cm,0,none⟩) (hw.block cm (eA Hcm6.out) Hn3.out)).trans (cell_of_one Hcm6.out);simp[execOp,go_sem,o0]
    refine tk 1 (.pointer (some ⟨bm,0,none⟩)) hS ?_ (λhS=>?_) (hins:=λL w=>by simp only[aB (l:=L) (i:=1) (k:=11) (by decide)])
    . intro w' L hn hw;have n11:=hn.flag 11 (by kernel_rfl);have hw:=hw.2 n11;have o0:=(World.cell?_of_block (a:=⟨cm,0,none⟩) (hw.block cm (eA Hcm6.out) Hn3.out)).trans (cell_of_one Hcm6.out);simp[execOp,go_sem,o0]
    refine ta 2 (.pointer (some ⟨bm,0,none⟩)) hS (λhS=>?_) (hins:=λL w=>by simp only[aB (l:=L) (i:=2) (k:=11) (by decide)]);refine tk 3 (.pointer (some ⟨bm,1,none⟩)) hS ?_ (λhS=>?_) (hins:=λL w=>by simp only[aB (l:=L) (i:=3) (k:=11) (by decide)])
    . intro w' L hn hw;have n11:=hn.flag 11 (by kernel_rfl);simp[execOp,go_sem]
    refine tk 4 (vo) hS ?_ (λhS=>?_) (hins:=λL w=>by simp only[aB (l:=L) (i:=4) (k:=11) (by decide)])
    . intro w' L hn hw;have n11:=hn.flag 11 (by kernel_rfl);have hw:=hw.2 n11;have o4:=(Hbm6.out.upd hw Hd2.out).cells.2.1;simp[execOp,go_sem,o4]
    refine tk 5 (.pointer (some ⟨w.heap.size,0,none⟩)) hS ?_ (λhS=>?_) (hins:=λL w=>by simp only[aB (l:=L) (i:=5) (k:=11) (by decide)])
    . intro w' L hn hw;have n11:=hn.flag 11 (by kernel_rfl);simp[execOp,go_sem]
    refine tk 6 (.int .i64 f) hS ?_ (λhS=>?_) (hins:=λL w=>by simp only[aB (l:=L) (i:=6) (k:=11) (by decide)])
    . intro w' L hn hw;have n11:=hn.flag 11 (by kernel_rfl);have hw:=hw.2 n11;have o6:=(HX16.out.upd hw Hv4.out).cells.1;simp[execOp,go_sem,o6]
    refine so 7 ?_;refine aE (v:=.slice (some ⟨wd.heap.size,0,none⟩) 1 1) (w':=wd.alloc (.cells #[.int .i64 f] 3)) (by simp[execOp,go_sem]) ?_;have hg8:=heap_alloc_new wd (.cells #[.int .i64 f] 3);have hb8:=aD wd (.cells #[.int .i64 f] 3);generalize wd.alloc (.cells #[.int .i64 f] 3)=w8 at hg8 hb8 ⊢;refine gS ?_ λhS=>?_
    . exact⟨hS.1.trans (Upd.low hb8 (λ_=>False)) (λ_ h=>h.elim),λ_=>(hS.2 rfl).trans (Upd.low hb8 (λ_=>False)) (λ_ h=>h.elim)⟩
    refine sl 8 ?_;have hzd:wd.heap.size=w6.heap.size:=(by rw[hwd]);have hz8:=hb8.size;have hbw8:Below w6.heap.size w6 w8:=(hwd ▸ hbd:Below w6.heap.size w6 wd).trans (hb8.mono (by omega));have hfew:=HMt5.out.few;refine bN w8 rfl (.tmp 37) (.tmp 40) _ rfl nsT (base:=B) (v:=vo) (rows:=dS m) (by simp[go_sem]) (Hown6.out.low hbw8) (g:=wd.heap.size) (by simp[go_sem]) hg8 rfl (by intro y hy;simp at hy;subst hy;rfl) (by unfold dS;rw[List.length_map];omega) (by unfold dS maxLen;rw[List.length_map];omega) (by omega) ?_;intro vo' w9 hown' hup' hat';obtain⟨Av,cv,hv',-,-⟩:=hown'.form;have hbm9:aL bm 122 (.map (some gm)) vo w9:=(Hbm6.out.low hbw8).upd hup' Hd2.out;refine gL ?_ λhS=>?_
    . exact⟨hS.1.trans hup' (λ_ h=>.inl (.inl h)),λ_=>(hS.2 rfl).trans hup' (λ_ h=>.inl h)⟩
    refine ta 9 (.pointer (some ⟨bm,0,none⟩)) hS (λhS=>?_) (hins:=λL w=>by simp only[aB (l:=L) (i:=9) (k:=11) (by decide)]);refine tk 10 (.pointer (some ⟨bm,1,none⟩)) hS ?_ (λhS=>?_) (hins:=λL w=>by simp only[aB (l:=L) (i:=10) (k:=11) (by decide)])
    . intro w' L hn hw;have n11:=hn.flag 11 (by kernel_rfl);simp[execOp,go_sem]
    refine so 11 ?_;obtain⟨q0,q1,q2⟩:=hbm9.cells;have hstp:=HMt5.out.bind (t:=.mk g ys) (v:=.slice Ay ys.length cy) (vo':=vo') (w1:=w6) (w2:=w8) (w3:=w9) Hm.out ⟨hpt.1,hf⟩ (HY3.out.low HB5.out (by omega)) hgt hgb Hm6.out Hu6.out hbw8 hown' hup' hat';have hst5:=HS5.out.st.stp hstp;rw[hv']at hst5 ⊢;refine bF (w':=w9.setCell ⟨bm,1,none⟩ (.slice Av (dS m++[[Value.int .i64 f]]).length cv)) (by simp[execOp,go_sem,q1,q2]) ?_;have hu10:Upd w9 (w9.setCell ⟨bm,1,none⟩ (.slice Av (dS m++[[Value.int .i64 f]]).length cv)) (λb=>b=bm):=aM _;generalize w9.setCell ⟨bm,1,none⟩ (.slice Av (dS m++[[Value.int .i64 f]]).length cv)=w10 at hst5 hu10 ⊢;refine gS ?_ λhS=>?_
    . exact⟨hS.1.trans hu10 (λ_ h=>.inl (.inr h)),λh=>by cases h⟩
    refine dn ?_;have Hfin:=Lh (HS5.out.trans hst5);clear hst5 hstp hu10 hS hwd hbd q0 q1 q2 hown' hup' hat' hbm9 hv' hg8 hb8 hbw8 hzd hz8;go_wp2_with fail;go_ret;rw[Hres.out];exact⟨rfl,Hfin.out⟩
 by_cases hfg:f=g
 . have q1:(f==g)=true:=by simp[hfg]
   have hr2:cM cA m xs ys=r:=by rw[wZ,<-HR.out,cA,if_neg hf,if_pos hfg]
   have Hr2:=Lh hr2;clear hr2 hfg;go_enter Try.func95,Try.ntmps95;go_upto_region 1 with fail
   obtain⟨hx1,hx2,hB3,hz3⟩:=aO w (.cells #[.int .i64 f,.slice Ax xs.length cx] 87) (.cells #[.int .i64 g,.slice Ay ys.length cy] 87);generalize (w.alloc (.cells #[.int .i64 f,.slice Ax xs.length cx] 87)).alloc (.cells #[.int .i64 g,.slice Ay ys.length cy] 87)=w3 at hx1 hx2 hB3 hz3 ⊢;have hI3:=HF.out.step HS.out hB3;have HI3:=Lh hI3;have HX1:=Lh (show aL w.heap.size 87 (.int .i64 f) (.slice Ax xs.length cx) w3 from hx1);have HX2:=Lh (show aL (w.heap.size+1) 87 (.int .i64 g) (.slice Ay ys.length cy) w3 from hx2);have k1:=λo=>cell_of_row w3 w.heap.size o _ _ _ hx1
   have k2:=λo=>cell_of_row w3 (w.heap.size+1) o _ _ _ hx2
   have HB3:=Lh hB3;have HX3:=Lh (HX.out.low hB3 hB);have HY3:=Lh (HY.out.low hB3 hB);clear hx1 hx2 hB3 hI3;go_wp2_with (
    go_at_call 82
    refine(vE B (MtF bm gm) (iD B bm gm cm cw) HF.out #[.pointer (some ⟨cw,0,none⟩)] cA xs ys _ _ m _ HX3.out HY3.out (by omega) HI3.out.st ?_).mono ?_
    . intro k hk hk' s1 w1 e1 e2 hw1 hs1 ht1 ht2;refine aH9 B bm gm cm cw hgt hgb xs[k] ys[k] s1 w1 e1 e2 hs1 ht1 ht2 (by omega) λvx vy w4 r1 r2 b4 i4=>?_
      have h1:=aZ hk;have h2:=fY xs[k];have h5:=tN hpt.2 hk;rw[<-h2]at h1 h5;simp only[aK]at h1;exact Hih.out _ _ _ _ _ _ _ _ (by omega) h5 r1 r2 b4 i4
    rintro e w5 ⟨rfl,hst5⟩;rw[Hr2.out]at hst5;try rw[Hr2.out])
   go_ret;exact⟨rfl,HI3.out.trans hst5⟩
 have q1:(f==g)=false:=by simp[hfg]
 have hres:r=(false,m):=by rw[<-HR.out,cA,if_neg hf,if_neg hfg]
 have Hres:=Lh hres;clear hres hfg;go_enter Try.func95,Try.ntmps95;go_upto_region 1 with fail
 obtain⟨hx1,hx2,hB3,hz3⟩:=aO w (.cells #[.int .i64 f,.slice Ax xs.length cx] 87) (.cells #[.int .i64 g,.slice Ay ys.length cy] 87);generalize (w.alloc (.cells #[.int .i64 f,.slice Ax xs.length cx] 87)).alloc (.cells #[.int .i64 g,.slice Ay ys.length cy] 87)=w3 at hx1 hx2 hB3 hz3 ⊢;have hI3:=HF.out.step HS.out hB3;have HI3:=Lh hI3;have HX1:=Lh (show aL w.heap.size 87 (.int .i64 f) (.slice Ax xs.length cx) w3 from hx1);have HX2:=Lh (show aL (w.heap.size+1) 87 (.int .i64 g) (.slice Ay ys.length cy) w3 from hx2);have k1:=λo=>cell_of_row w3 w.heap.size o _ _ _ hx1
 have k2:=λo=>cell_of_row w3 (w.heap.size+1) o _ _ _ hx2
 have HB3:=Lh hB3;have HX3:=Lh (HX.out.low hB3 hB);have HY3:=Lh (HY.out.low hB3 hB);clear hx1 hx2 hB3 hI3;go_wp2_with fail;go_ret;rw[Hres.out];exact⟨rfl,HI3.out⟩
def StU {σ:Type} (F:World->Nat->Prop)(I:σ->World->Prop)(s:σ)(w:World)(e:Ending)(w':World):Prop:=e=.returned (.tuple #[])/\Stp F I s w w'
def jU (m k:Mt)(j:Nat)(x:Int):Option Tm:=if x∈(k.take j).map (·.1)then none else Mt.get (m++k) x
theorem uO (m k:Mt):jU m k 0=Mt.get (m++k):=by funext x;simp[jU]
theorem yG {m k:Mt} {j:Nat} (hj:j<k.length)(x:Int):(if x=k[j].1 then none else jU m k j x)=jU m k (j+1) x:=by
 unfold jU;rw[List.take_succ_eq_append_getElem hj,List.map_append,List.map_cons,List.map_nil];simp only[List.mem_append,List.mem_singleton];by_cases h:x=k[j].1
 . simp[h]
 simp[h]
theorem aB5 {m k:Mt} (h:Mt.Ok (m++k))(x:Int):jU m k k.length x=m.get x:=by
 unfold jU;rw[List.take_length,Mt.get_append];unfold Mt.Ok at h;rw[List.map_append,List.nodup_append]at h;by_cases hx:x∈k.map (·.1)
 . rw[if_pos hx];exact(Mt.get_none.2 λe=>h.2.2 _ e _ hx rfl).symm
 rw[if_neg hx,Mt.get_none.2 hx];cases m.get x <;> rfl
theorem Own.form2 {w:World} {base size:Nat} {e:TypeId} {v:Value} {rows:List (List Value)} (h:Own w base e size v rows):
 (v=.slice none 0 0/\rows.length=0)\/∃g c,v=.slice (some ⟨g,0,none⟩) rows.length c/\rows.length<=c/\c<=maxLen:=by
 rcases h.1.2 with⟨h1,h2⟩ | ⟨g,cap,cur,hv,hb,hg,hnc,hcm,hcs,htake⟩
 . exact .inl ⟨h1,h2⟩
 exact .inr ⟨g,cap,hv,hnc,hcm⟩
theorem MtR.back {B bm gm:Nat} {m k:Mt} {vo vo':Value} {vals:Int->Value} {w w1:World} (h:MtR B bm gm (m++k) vo vals w)(hgt:B<=bm)(hgb:B<=gm)(hm:bK w1 gm cE (λx=>(jU m k k.length x).map λt=>.agg #[.int .i64 t.fn,vals x]))(hu:Upd w w1 (λb=>b=gm))
 (ho:Own w1 B 3 1 vo' (dS m)) (hat:vo'.ownBlock=vo.ownBlock):Stp (MtF bm gm) (MtI B bm gm) m w (w1.setCell ⟨bm,1,none⟩ vo'):=by
 obtain⟨d1,d2,d3⟩:=h.dis;have hz1:=hu.size;have hbl:=h.box.lt;have hBw:B<=w.heap.size:=by omega
 have hbox:aL bm 122 (.map (some gm)) vo w1:=h.box.upd hu d1;have hall:Upd w (w1.setCell ⟨bm,1,none⟩ vo') (λk=>k=bm\/k=gm\/vo.ownBlock=some k):=(hu.more λi e=>.inl (.inr (.inl e))).setCell _ _ (.inl (.inl rfl));have hget:∀x t,m.get x=some t->Mt.get (m++k) x=some t:=λx t e=>by rw[Mt.get_append,e]
 have hR:MtR B bm gm m vo' vals (w1.setCell ⟨bm,1,none⟩ vo'):=by
  refine⟨hbox.put1 vo',?_,?_,?_,?_,λp hp=>h.neg p (List.mem_append.2 (.inl hp))⟩
  . exact ho.upd (aM _) (λg e e2=>d2 (by rw[<-hat,e,e2]))
  . exact(hm.upd (aM _) (Ne.symm d1)).congr λx=>by rw[aB5 h.ok]
  . intro x t hx;refine hall.keepRd (h.rd x t (hget x t hx)) hBw (λk e=>?_);rcases e with rfl | rfl | e
    . exact hgt
    . exact hgb
    exact(h.own.lt k e).1
  have:=h.ok.take m.length;rwa [List.take_left]at this
 refine⟨⟨_,_,hR⟩,hall.more λi e=>.inl ((h.f_iff i).2 e),λk hk=>.inl ?_⟩;have:=(hR.f_iff k).1 hk;rw[hat]at this;exact(h.f_iff k).2 this
theorem gM (B bm gm:Nat)(hgt:B<=bm)(hgb:B<=gm)(m k:Mt)(w:World)(hs:MtI B bm gm (m++k) w):
 Calls Try.prog 81 #[.pointer (some ⟨bm,0,none⟩),.int .i64 (m.length:Nat)] w (StU (MtF bm gm) (MtI B bm gm) m w):=by
 obtain⟨vo,vals,hs⟩:=hs;obtain⟨z0,z1,z2⟩:=hs.box.cells;have hkl:(dS (m++k)).length=m.length+k.length:=by unfold dS;simp
 rcases hs.own.form2 with⟨hv,hn⟩ | ⟨g,c,hv,hc,hcm⟩
 . rw[hkl]at hn;obtain rfl:m=[]:=List.eq_nil_of_length_eq_zero (by omega);obtain rfl:k=[]:=List.eq_nil_of_length_eq_zero (by omega);subst hv;have HS:=Lh hs;clear hs;simp only[List.length_nil];go_enter Try.func81,Try.ntmps81;go_wp2_with fail;go_loopw [13] (λi wr=>∃j:Nat,j<=([]:Mt).length/\i=.int .i64 j/\bK wr gm cE (λx=>(jU ([]:Mt) ([]:Mt) j x).map λt=>.agg #[.int .i64 t.fn,vals x])/\Upd w wr (λb=>b=gm)) (λi _=>([]:Mt).length-(intOf i).toNat)
   case atStart=>exact⟨0,Nat.zero_le _,rfl,by rw[uO];exact HS.out.map,Upd.refl _ _⟩
   obtain⟨j,hj,rfl,hm,hu⟩:=hrel;obtain⟨d1,d2,d3⟩:=HS.out.dis;obtain⟨y0,y1,y2⟩:=(HS.out.box.upd hu d1).cells;have hown:=HS.out.own.upd hu (λg e e2=>d3 (e2 ▸ e));have Hm:=Lh hm;have Hu:=Lh hu;have Hown:=Lh hown;clear hm hu hown d1 d2 d3;by_cases hlt:j<([]:Mt).length
   . exact absurd hlt (by simp)
   obtain rfl:j=([]:Mt).length:=by omega
   have hfin:=HS.out.back (vo':=.slice none 0 0) hgt hgb Hm.out Hu.out (Own.nil _ _ _ _) rfl;have Hfin:=Lh hfin;clear hfin;go_wp2_with fail;go_end0
   exact⟨rfl,Hfin.out⟩
 rw[hkl]at hv hc;subst hv;have h1:¬((c:Int)<(m.length:Int)+(k.length:Int)):=by omega
 have h2:¬((m.length:Int)+(k.length:Int)<(m.length:Int)):=by omega
 have HS:=Lh hs;clear hs;have hcm2:c<=9223372036854775807:=hcm;by_cases hcl:c=m.length
 . obtain rfl:k=[]:=List.eq_nil_of_length_eq_zero (by omega);subst hcl;simp only[List.length_nil,Nat.add_zero]at h1 h2 hc HS ⊢;go_enter Try.func81,Try.ntmps81;go_wp2_with fail;go_loopw [13] (λi wr=>∃j:Nat,j<=([]:Mt).length/\i=.int .i64 j/\bK wr gm cE (λx=>(jU m ([]:Mt) j x).map λt=>.agg #[.int .i64 t.fn,vals x])/\Upd w wr (λb=>b=gm)) (λi _=>([]:Mt).length-(intOf i).toNat)
   case atStart=>exact⟨0,Nat.zero_le _,rfl,by rw[uO];exact HS.out.map,Upd.refl _ _⟩
   obtain⟨j,hj,rfl,hm,hu⟩:=hrel;obtain⟨d1,d2,d3⟩:=HS.out.dis;obtain⟨y0,y1,y2⟩:=(HS.out.box.upd hu d1).cells;have hown:=HS.out.own.upd hu (λg e e2=>d3 (e2 ▸ e));have Hm:=Lh hm;have Hu:=Lh hu;have Hown:=Lh hown;clear hm hu hown d1 d2 d3;by_cases hlt:j<([]:Mt).length
   . exact absurd hlt (by simp)
   obtain rfl:j=([]:Mt).length:=by omega
   have hfin:=HS.out.back (vo':=(.slice (some ⟨g,0,none⟩) m.length m.length)) hgt hgb Hm.out Hu.out (by simpa using Hown.out) rfl;have Hfin:=Lh hfin;clear hfin;go_wp2_with fail;go_end0
   exact⟨rfl,Hfin.out⟩
 go_enter Try.func81,Try.ntmps81;go_wp2_with fail;go_loopw [13] (λi wr=>∃j:Nat,j<=k.length/\i=.int .i64 j/\bK wr gm cE (λx=>(jU m k j x).map λt=>.agg #[.int .i64 t.fn,vals x])/\Upd w wr (λb=>b=gm)) (λi _=>k.length-(intOf i).toNat)
 case atStart=>exact⟨0,Nat.zero_le _,rfl,by rw[uO];exact HS.out.map,Upd.refl _ _⟩
 obtain⟨j,hj,rfl,hm,hu⟩:=hrel;obtain⟨d1,d2,d3⟩:=HS.out.dis;obtain⟨y0,y1,y2⟩:=(HS.out.box.upd hu d1).cells;have hown:=HS.out.own.upd hu (λg e e2=>d3 (e2 ▸ e));have Hm:=Lh hm;have Hu:=Lh hu;have Hown:=Lh hown;clear hm hu hown d1 d2 d3;by_cases hlt:j<k.length
 . obtain⟨⟨kf,kt⟩,hkj⟩:∃p,k[j]=p:=⟨_,rfl⟩;have hlen:m.length+j<(dS (m++k)).length:=by rw[hkl];omega
   obtain⟨g',hA,-,-,hc0,-⟩:=Hown.out.row_at (k:=m.length+j) hlen (by decide);obtain rfl:g'=g:=by injection hA with hA;injection hA with hA;exact hA.symm
   have c0:=hc0 0 (by decide);have hrow:(dS (m++k))[m.length+j]=[Value.int .i64 kf]:=by
    have h0:(dS (m++k))[m.length+j]? =some [Value.int .i64 kf]:=by
     unfold dS;rw[List.getElem?_map,List.getElem?_append_right (by omega),Nat.add_sub_cancel_left,List.getElem?_eq_getElem hlt,hkj];rfl
    rw[List.getElem?_eq_getElem hlen]at h0;exact Option.some.inj h0
   simp only[hrow,List.getElem_cons_zero,Nat.mul_one,Nat.add_zero]at c0;have hji:¬((k.length:Int)<=(j:Int)):=by omega
   have hji2:(j:Int)<(k.length:Int):=by omega
   have Hkj:=Lh hkj;clear hc0 hA hrow hkj;go_wp2_with (
    at_delete
    refine rY rfl (.tmp 20) (.tmp 21) rfl fT Try.underlying109 rfl kf rfl Hm.out ?_;intro w2 hm2 hu2;have Hm2:=Lh hm2;have Hu2:=Lh hu2;clear hm2 hu2)
   try simp only[Act.put]
   go_roundw
   case rel=>
    refine⟨j+1,by omega,by go_num,Hm2.out.congr λx=>?_,Hu.out.trans Hu2.out (λi e=>.inl e)⟩;rw[<-yG hlt,Hkj.out];by_cases hx:x=kf <;> simp[hx]
   case measure=>simp[intOf];omega
 obtain rfl:j=k.length:=by omega
 have hfin:=HS.out.back (vo':=(.slice (some ⟨g,0,none⟩) m.length c)) hgt hgb Hm.out Hu.out (by have:=Hown.out.take (i:=m.length) (by rw[hkl];omega);unfold dS at this ⊢;simpa using this) rfl;have Hfin:=Lh hfin;clear hfin;go_wp2_with fail;go_end0
 exact⟨rfl,Hfin.out⟩
theorem eE (B bm gm:Nat)(hgt:B<=bm)(hgb:B<=gm)(f g:Int)(xs ys:List Tm)(vx vy:Value)(m:Mt)(w:World)(hpt:eV (.mk f xs)=true)(hx:Rd w B (.sl 2 (aH xs)) vx)(hy:Rd w B (.sl 2 (aH ys)) vy)(hB:B<=w.heap.size)(hs:MtI B bm gm m w):
 Calls Try.prog 76 #[.pointer (some ⟨bm,0,none⟩),.agg #[.int .i64 f,vx],.agg #[.int .i64 g,vy]] w (StB (MtF bm gm) (MtI B bm gm) (bH m (.mk f xs) (.mk g ys)) w):=by
 have hF:=MtI.ok hgt hgb;obtain⟨Ax,cx,rfl,hcx,hnx,hmx⟩:=hx.tm_form;obtain⟨Ay,cy,rfl,hcy,hny,hmy⟩:=hy.tm_form;obtain⟨b,hb⟩:∃b,(cA m (.mk f xs) (.mk g ys)).1=b:=⟨_,rfl⟩;obtain⟨k,hmk,-⟩:=hC (.mk f xs) m (.mk g ys);have hres:bH m (.mk f xs) (.mk g ys)=(b,if b then m++k else m):=by
  unfold bH;rw[hb];cases b with
  | true=>simp only[if_true];rw[<-hb,<-hmk]
  | false=>simp
 rw[hres];have hmt:cA m (.mk f xs) (.mk g ys)=(b,m++k):=by rw[<-hb,<-hmk]
 obtain⟨vo,vals,hMt⟩:=hs;obtain⟨z0,z1,-⟩:=hMt.box.cells;obtain⟨A,c,hv,-,-⟩:=hMt.own.form;have hkl:(dS m).length=m.length:=by unfold dS;simp
 rw[hkl]at hv;subst hv;have hbl:=hMt.box.lt;have HS:=Lh (show MtI B bm gm m w from⟨_,_,hMt⟩);have HF:=Lh hF;have HX:=Lh hx;have HY:=Lh hy;have Hmt:=Lh hmt;clear hMt hF hx hy hmt hres hb hmk hkl;go_enter Try.func76,Try.ntmps76;go_upto_region 1 with fail
 obtain⟨hx1,hx2,hx3,hB3,hz3⟩:=fW w (.cells #[.pointer (some ⟨bm,0,none⟩)] 120) (.cells #[.int .i64 f,.slice Ax xs.length cx] 87) (.cells #[.int .i64 g,.slice Ay ys.length cy] 87);generalize ((w.alloc (.cells #[.pointer (some ⟨bm,0,none⟩)] 120)).alloc (.cells #[.int .i64 f,.slice Ax xs.length cx] 87)).alloc (.cells #[.int .i64 g,.slice Ay ys.length cy] 87)=w3 at hx1 hx2 hx3 hB3 hz3 ⊢;have hf0:(w3.alloc (.cells #[.nilFunc] 98)).cell? ⟨w3.heap.size,0,none⟩=some .nilFunc:=cell_of_row (w3.alloc (.cells #[.nilFunc] 98)) w3.heap.size 0 _ _ _ (heap_alloc_new w3 _);have hf1:=λo=>frozen_of_row (w3.alloc (.cells #[.nilFunc] 98)) w3.heap.size o _ _ (heap_alloc_new w3 _)
 have z1':=(hB3.cell (p:=⟨bm,1,none⟩) hbl).trans z1;have k0:=cell_of_one hx1;have Hx1:=Lh hx1;have Hx2:=Lh (show aL (w.heap.size+1) 87 (.int .i64 f) (.slice Ax xs.length cx) w3 from hx2);have Hx3:=Lh (show aL (w.heap.size+1+1) 87 (.int .i64 g) (.slice Ay ys.length cy) w3 from hx3);have HB3:=Lh hB3;have Hz3:=Lh hz3;clear hx1 hx2 hx3 hB3 z0 z1 hz3;go_upto_region 4 with fail
 clear hf0 hf1;have hb4:=aD w3 (.cells #[.func (.func 95) #[] #[.pointer (some ⟨w.heap.size,0,none⟩),.pointer (some ⟨w3.heap.size,0,none⟩)]] 98);have hx4:aU w3.heap.size 98 (.func (.func 95) #[] #[.pointer (some ⟨w.heap.size,0,none⟩),.pointer (some ⟨w3.heap.size,0,none⟩)]) (w3.alloc (.cells #[.func (.func 95) #[] #[.pointer (some ⟨w.heap.size,0,none⟩),.pointer (some ⟨w3.heap.size,0,none⟩)]] 98)):=heap_alloc_new w3 _;generalize w3.alloc (.cells #[.func (.func 95) #[] #[.pointer (some ⟨w.heap.size,0,none⟩),.pointer (some ⟨w3.heap.size,0,none⟩)]] 98)=w4 at hb4 hx4 ⊢;have k4:=hx4.cell;have hz4:=hb4.size;have hz3:=HB3.out.size;have hb44:Below w.heap.size w w4:=HB3.out.trans (hb4.mono (by omega));have hs4:=HF.out.step HS.out hb44;have hI4:iD B bm gm w.heap.size w3.heap.size m w4:=⟨hs4.st,(hb4.block _ (eA Hx1.out)).trans Hx1.out,hx4⟩;have hx24:=Hx2.out.low hb4;have hx34:=Hx3.out.low hb4;obtain⟨p0,p1,-⟩:=hx24.cells;obtain⟨p2,p3,-⟩:=hx34.cells;have HX4:=Lh (HX.out.low hb44 hB);have HY4:=Lh (HY.out.low hb44 hB);have HI4:=Lh hI4;have HS4:=Lh hs4;have Hk0:=Lh ((HB3.out.mono (Nat.le_refl _)));clear hx4 hb4 hs4 hI4 hx24 hx34 hb44 k0 z1';cases b with
 | true=>
  go_wp2_with (
   go_at_call 95
   refine(aA2 (aI xs+1) B bm gm w.heap.size w3.heap.size hgt hgb f g xs ys _ _ m _ (by omega) hpt HX4.out HY4.out (by omega) HI4.out).mono ?_;rintro e w5 ⟨rfl,hst⟩;rw[Hmt.out]at hst;rw[Hmt.out])
  go_ret;exact⟨rfl,HS4.out.trans (iD.stp' hst)⟩
 | false=>
  go_upto_region 6 with(
   go_at_call 95
   refine(aA2 (aI xs+1) B bm gm w.heap.size w3.heap.size hgt hgb f g xs ys _ _ m _ (by omega) hpt HX4.out HY4.out (by omega) HI4.out).mono ?_;rintro e w5 ⟨rfl,hst⟩;rw[Hmt.out]at hst;rw[Hmt.out];have Hst:=Lh hst;clear hst)
  have k5:=cell_of_one Hst.out.st.2.1;have hbk:=gM B bm gm hgt hgb m k w5 Hst.out.st.1;have Hbk:=Lh hbk;clear hbk;go_wp2_with (
   go_at_call 81
   refine Hbk.out.mono ?_;rintro e w6 ⟨rfl,hst6⟩;have Hst6:=Lh hst6;clear hst6)
  go_ret;exact⟨rfl,(HS4.out.trans (iD.stp' Hst.out)).trans Hst6.out⟩
theorem aH8 (B bm gm:Nat)(hgt:B<=bm)(f:Int)(xs:List Tm)(v:Value)(m:Mt)(w:World)(hz:aI xs<=1000000000)(hx:Rd w w.heap.size (.sl 2 (aH xs)) v)(hs:MtI B bm gm m w):
 Calls Try.prog 78 #[.pointer (some ⟨bm,0,none⟩),.agg #[.int .i64 f,v]] w (TmR (λb=>b<B) (cX m.get (.mk f xs)) w):=by
 obtain⟨A,c,rfl,hc,hn,hm⟩:=hx.tm_form;obtain⟨vo,vals,hMt⟩:=hs;have hbl:=hMt.box.lt;have hU:gB w (λb=>b<B) (.map (some gm)) m.get:=.inr ⟨gm,vals,rfl,hMt.map,λx t hx=>(hMt.rd x t hx).rdP (by omega)⟩;have Hbx:=Lh hMt.box;have HU:=Lh hU;have HX:=Lh hx;obtain⟨t,ht⟩:∃t,cX m.get (.mk f xs)=t:=⟨_,rfl⟩;have Ht:=Lh ht;rw[ht];obtain⟨hx1,hx2,hB2,hz2⟩:=aO w (.cells #[.int .i64 f,.slice A xs.length c] 87) (.cells #[.int .i64 0,.slice none 0 0] 87);clear hMt hU hx ht;go_enter Try.func78,Try.ntmps78;go_upto_region 1 with fail
 have hx1:aL w.heap.size 87 (.int .i64 f) (.slice A xs.length c) _:=hx1;have hx2:aL (w.heap.size+1) 87 (.int .i64 0) (.slice none 0 0) _:=hx2;generalize (w.alloc (.cells #[.int .i64 f,.slice A xs.length c] 87)).alloc (.cells #[.int .i64 0,.slice none 0 0] 87)=w2 at hx1 hx2 hB2 hz2 ⊢;have HX1:=Lh hx1;have HX2:=Lh hx2;have HB2:=Lh hB2;have Hbx2:=Lh (Hbx.out.low hB2);clear hx1 hx2 hB2;refine rg 7 (λ_ w'=>Upd w2 w' (λb=>b=w.heap.size+1)) ?_;intro wd hwd hbd;refine⟨?_,λhS=>?_⟩
 . exact Upd.low (hwd ▸ hbd) _
 refine ta 0 (.pointer (some ⟨bm,0,none⟩)) hS λhS=>?_
 refine ta 1 (.pointer (some ⟨bm,0,none⟩)) hS λhS=>?_
 refine ta 2 (.pointer (some ⟨bm,0,none⟩)) hS λhS=>?_
 refine tk 3 (.map (some gm)) hS ?_ λhS=>?_
 . intro w' L hn hw;have o3:=(Hbx2.out.upd hw (by omega)).cells.1;simp[execOp,go_sem,o3]
 refine tk 4 (.agg #[.int .i64 f,.slice A xs.length c]) hS ?_ λhS=>?_
 . intro w' L hn hw;have o4:=(HX1.out.upd hw (by omega)).cells;simp[execOp,go_sem,o4.1,o4.2.1]
 refine so 5 ?_;have hbd2:Below w2.heap.size w2 wd:=hwd ▸ hbd;have hlow:Below w.heap.size w wd:=HB2.out.trans (hbd2.mono (by omega));have hc5:=rB m.get (.map (some gm)) (aI xs+1) (λb=>b<B) f xs (.slice A xs.length c) w.heap.size wd (by omega) hz (HX.out.low hlow (Nat.le_refl _)) (by have:wd.heap.size=w2.heap.size:=(by rw[hwd]);omega) (HU.out.low hlow);rw[Ht.out]at hc5;refine aG ?_ hc5 ?_
 . simp[execOp,resolve,invoke,go_sem]
 rintro e w6 ⟨A6,c6,rfl,hr6,hb6⟩;refine⟨_,rfl,?_⟩;refine gS ?_ λhS=>?_
 . exact hS.trans (Upd.low hb6 (λ_=>False)) (λ_ h=>h.elim)
 refine so 6 ?_;have hzd:wd.heap.size=w2.heap.size:=by rw[hwd]
 have hx6:=(HX2.out.low hbd2).low hb6;obtain⟨q0,q1,q2⟩:=hx6.cells;have hset:=hx6.set (.int .i64 t.fn) (.slice A6 t.args.length c6);refine bF (w':=(w6.setCell ⟨w.heap.size+1,0,none⟩ (.int .i64 t.fn)).setCell ⟨w.heap.size+1,1,none⟩ (.slice A6 t.args.length c6)) (by simp[execOp,go_sem,q0,q1,q2]) ?_;generalize (w6.setCell ⟨w.heap.size+1,0,none⟩ (.int .i64 t.fn)).setCell ⟨w.heap.size+1,1,none⟩ (.slice A6 t.args.length c6)=w7 at hset ⊢;refine gS ?_ λhS=>?_
 . exact hS.trans hset.2 (λ_ h=>.inl h)
 refine dn ?_;have hr7:RdP w7 (NbP (λb=>b<B) w.heap.size) (.sl 2 (aH t.args)) (.slice A6 t.args.length c6):=(hr6.upd hset.2 (λb hb _ e=>by
  rcases hb with hb | hb
  . have:b<B:=hb;omega
  . omega)).more (λb hb _=>by
  rcases hb with hb | hb
  . exact .inl hb
  exact .inr (by omega))
 have hb7:Below w.heap.size w w7:=HB2.out.trans (hS.toLow (by omega) (λk e=>by omega));have Hr7:=Lh hr7;have Hb7:=Lh hb7;have Hset:=Lh hset.1;clear hr7 hb7 hset hS hx6 q0 q1 q2 hr6 hb6 hwd hbd;go_wp2_with fail;obtain⟨j0,j1,-⟩:=Hset.out.cells;refine bodyPost_ret (v:=.agg #[.int .i64 t.fn,.slice A6 t.args.length c6]) (by simp[results,Try.results78,go_sem,j0,j1]) rfl ⟨A6,c6,rfl,Hr7.out,Hb7.out⟩
theorem yU (m:Mt)(p l:Lt)(turned:Bool)(s t:Tm)(h1:p.neg=l.neg)(h2:dI p=dI l)(hs:(if turned then l.r else l.l)=s)(ht:(if turned then l.l else l.r)=t):
 eL m p l turned=if (bH m p.l s).1=true/\(bH (bH m p.l s).2 p.r t).1=true then(true,(bH (bH m p.l s).2 p.r t).2)else(false,m):=by
 unfold eL;rw[hs,ht,if_neg (by rintro(h | h);exact h h1;exact h h2)]
theorem vA (B bm gm:Nat)(hgt:B<=bm)(hgb:B<=gm)(p l:Lt)(turned:Bool)(e1 e2:Value)(m:Mt)(w:World)(hp1:eV p.l=true)(hp2:eV p.r=true)(h1:LtV w B p e1)(h2:LtV w B l e2)(hB:B<=w.heap.size)(hs:MtI B bm gm m w):
 Calls Try.prog 79 #[.pointer (some ⟨bm,0,none⟩),e1,e2,.bool turned] w (StB (MtF bm gm) (MtI B bm gm) (eL m p l turned) w):=by
 have hF:=MtI.ok hgt hgb;obtain⟨A1,c1,D1,d1,rfl,hr1,hs1⟩:=h1;obtain⟨A2,c2,D2,d2,rfl,hr2,hs2⟩:=h2;rcases p with⟨n1,⟨f1,zs1⟩,⟨g1,us1⟩⟩
 rcases l with⟨n2,⟨f2,zs2⟩,⟨g2,us2⟩⟩
 simp only[Tm.fn,Tm.args]at*;obtain⟨t1,ht1⟩:∃b,dI ⟨n1,.mk f1 zs1,.mk g1 us1⟩=b:=⟨_,rfl⟩;obtain⟨t2,ht2⟩:∃b,dI ⟨n2,.mk f2 zs2,.mk g2 us2⟩=b:=⟨_,rfl⟩;have hsp:=yU m ⟨n1,.mk f1 zs1,.mk g1 us1⟩ ⟨n2,.mk f2 zs2,.mk g2 us2⟩ turned;rw[ht1,ht2]at hsp;have hno:n1≠n2\/t1≠t2->eL m ⟨n1,.mk f1 zs1,.mk g1 us1⟩ ⟨n2,.mk f2 zs2,.mk g2 us2⟩ turned=(false,m):=λh=>by
  unfold eL;rw[ht1,ht2,if_pos h]
 obtain⟨r,hr⟩:∃r,eL m ⟨n1,.mk f1 zs1,.mk g1 us1⟩ ⟨n2,.mk f2 zs2,.mk g2 us2⟩ turned=r:=⟨_,rfl⟩;rw[hr]at hsp hno ⊢;have HF:=Lh hF;have R1:=Lh hr1;have R2:=Lh hr2;have S1:=Lh hs1;have S2:=Lh hs2;have HS:=Lh hs;have HT1:=Lh ht1;have HT2:=Lh ht2;have Hsp:=Lh hsp;have Hno:=Lh hno;clear hr1 hr2 hs1 hs2 hs ht1 ht2 hsp hno hr hF;by_cases hn:n1=n2
 . subst hn;by_cases ht:t1=t2
   . have q:(t1 !=t2)=false:=(by simp[ht]);subst ht;go_enter Try.func79,Try.ntmps79;go_upto_region 1 with fail
     obtain⟨hx1,hx2,hB2,hz2⟩:=aO w (.cells #[.bool n1,.int .i64 f1,.slice A1 zs1.length c1,.int .i64 g1,.slice D1 us1.length d1] 53) (.cells #[.bool n1,.int .i64 f2,.slice A2 zs2.length c2,.int .i64 g2,.slice D2 us2.length d2] 53);have hx1:eT w.heap.size 53 (.bool n1) (.int .i64 f1) (.slice A1 zs1.length c1) (.int .i64 g1) (.slice D1 us1.length d1) _:=hx1;have hx2:eT (w.heap.size+1) 53 (.bool n1) (.int .i64 f2) (.slice A2 zs2.length c2) (.int .i64 g2) (.slice D2 us2.length d2) _:=hx2;generalize (w.alloc (.cells #[.bool n1,.int .i64 f1,.slice A1 zs1.length c1,.int .i64 g1,.slice D1 us1.length d1] 53)).alloc (.cells #[.bool n1,.int .i64 f2,.slice A2 zs2.length c2,.int .i64 g2,.slice D2 us2.length d2] 53)=w2 at hx1 hx2 hB2 hz2 ⊢;have HX1:=Lh hx1;have HX2:=Lh hx2;have HB2:=Lh hB2;clear hx1 hx2 hB2;refine rg 12 (λ_ w'=>Below w2.heap.size w2 w') ?_;intro wd hwd hbd;refine⟨?_,λhS=>?_⟩
     . exact hwd ▸ hbd
     refine ta 0 (.pointer (some ⟨w.heap.size,0,none⟩)) hS λhS=>?_
     refine tk 1 (.bool n1) hS ?_ λhS=>?_
     . intro w' L hn hw;have o5:=(HX1.out.upd (Upd.low hw (λ_=>False)) id).cells;simp[execOp,go_sem,o5.1]
     refine ta 2 (.pointer (some ⟨w.heap.size+1,0,none⟩)) hS λhS=>?_
     refine tk 3 (.bool n1) hS ?_ λhS=>?_
     . intro w' L hn hw;have o6:=(HX2.out.upd (Upd.low hw (λ_=>False)) id).cells;simp[execOp,go_sem,o6.1]
     refine ta 4 (.bool false) hS λhS=>?_
     refine ta 5 (.bool false) hS λhS=>?_
     refine tk 6 (.agg #[.bool n1,.int .i64 f1,.slice A1 zs1.length c1,.int .i64 g1,.slice D1 us1.length d1]) hS ?_ λhS=>?_
     . intro w' L hn hw;have o5:=(HX1.out.upd (Upd.low hw (λ_=>False)) id).cells;simp[execOp,go_sem,o5.1,o5.2.1,o5.2.2.1,o5.2.2.2.1,o5.2.2.2.2]
     refine tk 8 (.agg #[.bool n1,.int .i64 f2,.slice A2 zs2.length c2,.int .i64 g2,.slice D2 us2.length d2]) hS ?_ λhS=>?_
     . intro w' L hn hw;have o6:=(HX2.out.upd (Upd.low hw (λ_=>False)) id).cells;simp[execOp,go_sem,o6.1,o6.2.1,o6.2.2.1,o6.2.2.2.1,o6.2.2.2.2]
     refine so 7 ?_;have hbd2:Below w2.heap.size w2 wd:=hwd ▸ hbd;have hlow:Below w.heap.size w wd:=HB2.out.trans (hbd2.mono (by omega));have hzd:wd.heap.size=w2.heap.size:=(by rw[hwd]);have hc7:=jJ n1 f1 g1 zs1 us1 A1 D1 c1 d1 B wd (R1.out.low hlow hB) (S1.out.low hlow hB) (by omega);rw[HT1.out]at hc7;refine aG ?_ hc7 ?_
     . simp[execOp,resolve,invoke,go_sem]
     rintro e w6 ⟨rfl,hb6⟩;refine⟨_,rfl,?_⟩;refine gS ?_ λhS=>?_
     . exact hS.trans (hb6.mono hS.size)
     refine so 9 ?_;have hlow6:Below w.heap.size w w6:=hlow.trans (hb6.mono (by omega));have hc9:=jJ n1 f2 g2 zs2 us2 A2 D2 c2 d2 B w6 (R2.out.low hlow6 hB) (S2.out.low hlow6 hB) (by have:=hb6.size;omega);rw[HT2.out]at hc9;refine aG ?_ hc9 ?_
     . simp[execOp,resolve,invoke,go_sem]
     rintro e w7 ⟨rfl,hb7⟩;refine⟨_,rfl,?_⟩;refine gS ?_ λhS=>?_
     . exact hS.trans (hb7.mono hS.size)
     refine tk 10 (.bool false) hS ?_ λhS=>?_
     . intros;simp[execOp,go_sem,q]
     refine ta 11 (.bool false) hS λhS=>?_
     refine dn ?_;have Hlow7:=Lh hS;clear hS hb7 hlow6 hb6 hlow hbd2 hwd hbd hzd;have hx17:=HX1.out.upd (Upd.low Hlow7.out (λ_=>False)) id;have hx27:=HX2.out.upd (Upd.low Hlow7.out (λ_=>False)) id;have HX17:=Lh hx17;have HX27:=Lh hx27;clear hx17 hx27;go_upto_region 3 with fail
     refine rg 8 (λ_ w'=>Below w7.heap.size w7 w') ?_;intro wd hwd hbd;refine⟨?_,λhS=>?_⟩
     . exact hwd ▸ hbd
     refine ta 0 (.pointer (some ⟨w.heap.size+1,1,none⟩)) hS λhS=>?_
     refine tk 1 (.agg #[.int .i64 f2,.slice A2 zs2.length c2]) hS ?_ λhS=>?_
     . intro w' L hn hw;have o6:=(HX27.out.upd (Upd.low hw (λ_=>False)) id).cells;simp[execOp,go_sem,o6.2.1,o6.2.2.1]
     refine ta 2 (.pointer (some ⟨w.heap.size+1,3,none⟩)) hS λhS=>?_
     refine tk 3 (.agg #[.int .i64 g2,.slice D2 us2.length d2]) hS ?_ λhS=>?_
     . intro w' L hn hw;have o6:=(HX27.out.upd (Upd.low hw (λ_=>False)) id).cells;simp[execOp,go_sem,o6.2.2.2.1,o6.2.2.2.2]
     refine lH 4 5 (o1:={dst:=some 9,op:=Op.alloc 87,type:=0,pos:= "unify.go:215",after:= #[],guard:=none}) (o2:={dst:=some 10,op:=Op.alloc 87,type:=0,pos:= "unify.go:215",after:= #[],guard:=none}) (d1:=9) (d2:=10) (ob:=(.cells #[.int .i64 0,.slice none 0 0] 87)) (L':= #[true,true,true,true,true,true,false,false]) (by kernel_rfl) (by kernel_rfl) (by kernel_rfl) rfl rfl rfl rfl rfl rfl rfl rfl (by decide) (λa w=>by simp[execOp,go_sem]) (λa w=>by simp[execOp,go_sem]) ?s1 ?s2 ?s12 (λb4 b5 hb4=>?_)
     case s1=>exact hS.trans ((aD _ _).mono hS.size)
     case s2=>exact hS.trans ((aD _ _).mono hS.size)
     case s12=>exact(hS.trans ((aD _ _).mono hS.size)).trans ((aD _ _).mono (by have:=hS.size;simp;omega))
     have hSw:=hS;generalize hWW:(wd.alloc (.cells #[.int .i64 0,.slice none 0 0] 87)).alloc (.cells #[.int .i64 0,.slice none 0 0] 87)=W;obtain⟨e1,e2,e3,e4,-,e6,e7,e8,e9,e10,e11,e12⟩:=pU (x0:=.int .i64 f2) (x1:=.slice A2 zs2.length c2) (y0:=.int .i64 g2) (y1:=.slice D2 us2.length d2) hb4 hWW;simp only[Act.put,List.setIfInBounds_toArray,List.set_cons_zero,List.set_cons_succ];refine so 6 ?_;obtain⟨q0,q1,q2⟩:=e1.cells;refine bF (w':=(W.setCell ⟨b4,0,none⟩ (.int .i64 f2)).setCell ⟨b4,1,none⟩ (.slice A2 zs2.length c2)) (by simp[execOp,go_sem,q0,q1,q2]) ?_;refine gS ?_ λhS=>?_
     . exact hSw.trans (e6.mono hSw.size)
     refine so 7 ?_;obtain⟨q0,q1,q2⟩:=e2.cells;generalize (W.setCell ⟨b4,0,none⟩ (.int .i64 f2)).setCell ⟨b4,1,none⟩ (.slice A2 zs2.length c2)=W2 at q0 q1 q2 e2 e3 e4 e6 e7 e11 e12 ⊢;refine bF (w':=(W2.setCell ⟨b5,0,none⟩ (.int .i64 g2)).setCell ⟨b5,1,none⟩ (.slice D2 us2.length d2)) (by simp[execOp,go_sem,q0,q1,q2]) ?_;generalize (W2.setCell ⟨b5,0,none⟩ (.int .i64 g2)).setCell ⟨b5,1,none⟩ (.slice D2 us2.length d2)=w9 at e3 e4 e7 e11 e12 ⊢;refine gS ?_ λhS=>?_
     . exact hSw.trans (e7.mono hSw.size)
     refine dn ?_;have hwz:=hSw.size;have hz7:=Hlow7.out.size;have hlow9:Below w.heap.size w w9:=(HB2.out.trans (Hlow7.out.mono (by omega))).trans (hS.mono (by omega));have hx19:=HX17.out.upd (Upd.low hS (λ_=>False)) id;have hs9:=HF.out.step HS.out hlow9;have He3:=Lh e3;have He4:=Lh e4;have Hlow9:=Lh hlow9;have HX19:=Lh hx19;have HS9:=Lh hs9;have hb45:w2.heap.size<=b4/\w2.heap.size<=b5/\b4≠b5:=⟨by omega,by omega,e10⟩;clear e1 e2 e3 e4 e6 e7 e8 e9 e10 hWW hS hSw hwd hbd q0 q1 q2 hlow9 hx19 hs9 HX17 HX27 Hlow7;cases turned with
     | false=>
      obtain⟨p0,p1,p2⟩:=He3.out.cells;obtain⟨p3,p4,p5⟩:=He4.out.cells;go_upto_region 6 with fail
      have hr:=Hsp.out (.mk f2 zs2) (.mk g2 us2) rfl rfl rfl rfl;have Hr:=Lh hr;obtain⟨wq,rfl⟩:∃wq:World,wq=w9:=⟨_,rfl⟩;have Hb4q:=He3;have Hb5q:=He4;have HXq:=HX19;have Hlowq:=Hlow9;have HSq:=HS9;clear hr p0 p1 p2 p3 p4 p5;have hFq:∀k,MtF bm gm wq k->k<w.heap.size:=λk hk=>HF.out.lt m w k HS.out ((HF.out.low m w wq HS.out Hlowq.out).2 k hk)
      have HFq:=Lh hFq;obtain⟨vo,vals,hMt⟩:=HSq.out.st;obtain⟨y0,y1,-⟩:=hMt.box.cells;obtain⟨Ao,co,hvo,-,-⟩:=hMt.own.form;have hkl:(dS m).length=m.length:=(by unfold dS;simp);rw[hkl]at hvo;subst hvo;have hzq:=Hlowq.out.size;obtain⟨k1,hk1,-⟩:=fQ m (.mk f1 zs1) (.mk f2 zs2);obtain⟨b1,hb1⟩:∃b,(bH m (.mk f1 zs1) (.mk f2 zs2)).1=b:=⟨_,rfl⟩;have ht1:bH m (.mk f1 zs1) (.mk f2 zs2)=(b1,m++k1):=(by rw[<-hb1,<-hk1]);have Ht1:=Lh ht1;obtain⟨p0,p1,-⟩:=Hb4q.out.cells;obtain⟨x0,x1,x2,x3,x4⟩:=HXq.out.cells;have hp1':=hp1;clear hMt hFq ht1 hk1 hb1 hkl;cases b1 with
      | false=>
       go_upto_region 9 with(
        go_at_call 76
        refine(eE B bm gm hgt hgb f1 f2 zs1 zs2 _ _ m _ hp1 (Stp.rd HF.out HS.out HSq.out R1.out hB) (Stp.rd HF.out HS.out HSq.out R2.out hB) (by omega) HSq.out.st).mono ?_;rintro e w10 ⟨rfl,hst⟩;rw[Ht1.out]at hst;rw[Ht1.out];have Hst:=Lh hst;clear hst)
       have hbk:=gM B bm gm hgt hgb m k1 w10 Hst.out.st;have Hbk:=Lh hbk;clear hbk;go_wp2_with (
        go_at_call 81
        refine Hbk.out.mono ?_;rintro e w11 ⟨rfl,hst11⟩;have Hst11:=Lh hst11;clear hst11)
       go_ret;have hrr:r=(false,m):=(by rw[Hr.out,if_neg (by rintro⟨h,-⟩;rw[Ht1.out]at h;cases h)]);rw[hrr];exact⟨rfl,(HSq.out.trans Hst.out).trans Hst11.out⟩
      | true=>
       obtain⟨k2,hk2,-⟩:=fQ (m++k1) (.mk g1 us1) (.mk g2 us2);obtain⟨b2,hb2⟩:∃b,(bH (m++k1) (.mk g1 us1) (.mk g2 us2)).1=b:=⟨_,rfl⟩;have ht2:bH (m++k1) (.mk g1 us1) (.mk g2 us2)=(b2,m++(k1++k2)):=(by rw[<-hb2,<-List.append_assoc,<-hk2]);have Ht2:=Lh ht2;clear ht2 hk2 hb2;have hrr:r=(b2,if b2 then m++(k1++k2)else m):=by
        rw[Hr.out];simp only[Ht1.out,Ht2.out];cases b2 <;> simp
       have Hrr:=Lh hrr;clear hrr;cases b2 with
       | false=>
        go_upto_region 9 with(
         first
         | (
          go_at_call 76
          with_reducible refine(eE B bm gm hgt hgb f1 f2 zs1 zs2 _ _ m _ hp1 (Stp.rd HF.out HS.out HSq.out R1.out hB) (Stp.rd HF.out HS.out HSq.out R2.out hB) (by omega) HSq.out.st).mono ?_
          rintro e w10 ⟨rfl,hst⟩;rw[Ht1.out]at hst;rw[Ht1.out];have Hst:=Lh hst;clear hst;obtain⟨p3,p4,-⟩:=(Hb5q.out.upd Hst.out.upd (λe=>by have:=HFq.out _ e;omega)).cells;obtain⟨-,-,-,x3',x4'⟩:=(HXq.out.upd Hst.out.upd (λe=>by have:=HFq.out _ e;omega)).cells;have hz10:=Hst.out.upd.size)
         | (
          go_at_call 76
          with_reducible refine(eE B bm gm hgt hgb g1 g2 us1 us2 _ _ (m++k1) _ hp2 (Stp.rd HF.out HS.out (HSq.out.trans Hst.out) S1.out hB) (Stp.rd HF.out HS.out (HSq.out.trans Hst.out) S2.out hB) (by omega) Hst.out.st).mono ?_
          rintro e w11 ⟨rfl,hst2⟩;rw[Ht2.out]at hst2;rw[Ht2.out];have Hst2:=Lh hst2;clear hst2))
        have hbk:=gM B bm gm hgt hgb m (k1++k2) w11 Hst2.out.st;have Hbk:=Lh hbk;clear hbk;go_wp2_with (
         go_at_call 81
         refine Hbk.out.mono ?_;rintro e w12 ⟨rfl,hst12⟩;have Hst12:=Lh hst12;clear hst12)
        go_ret;rw[Hrr.out];exact⟨rfl,((HSq.out.trans Hst.out).trans Hst2.out).trans Hst12.out⟩
       | true=>
        go_wp2_with (
         first
         | (
          go_at_call 76
          with_reducible refine(eE B bm gm hgt hgb f1 f2 zs1 zs2 _ _ m _ hp1 (Stp.rd HF.out HS.out HSq.out R1.out hB) (Stp.rd HF.out HS.out HSq.out R2.out hB) (by omega) HSq.out.st).mono ?_
          rintro e w10 ⟨rfl,hst⟩;rw[Ht1.out]at hst;rw[Ht1.out];have Hst:=Lh hst;clear hst;obtain⟨p3,p4,-⟩:=(Hb5q.out.upd Hst.out.upd (λe=>by have:=HFq.out _ e;omega)).cells;obtain⟨-,-,-,x3',x4'⟩:=(HXq.out.upd Hst.out.upd (λe=>by have:=HFq.out _ e;omega)).cells;have hz10:=Hst.out.upd.size)
         | (
          go_at_call 76
          with_reducible refine(eE B bm gm hgt hgb g1 g2 us1 us2 _ _ (m++k1) _ hp2 (Stp.rd HF.out HS.out (HSq.out.trans Hst.out) S1.out hB) (Stp.rd HF.out HS.out (HSq.out.trans Hst.out) S2.out hB) (by omega) Hst.out.st).mono ?_
          rintro e w11 ⟨rfl,hst2⟩;rw[Ht2.out]at hst2;rw[Ht2.out];have Hst2:=Lh hst2;clear hst2))
        go_ret;rw[Hrr.out];exact⟨rfl,(HSq.out.trans Hst.out).trans Hst2.out⟩
     | true=>
      obtain⟨p0,p1,p2⟩:=He3.out.cells;obtain⟨p3,p4,p5⟩:=He4.out.cells;have hst1:=He3.out.set (.int .i64 g2) (.slice D2 us2.length d2);have q3:=(hst1.2.block b5 e12 (Ne.symm hb45.2.2)).trans He4.out;have hst2:=aL.set (b:=b5) (t:=87) (x:=.int .i64 g2) (y:=.slice D2 us2.length d2) q3 (.int .i64 f2) (.slice A2 zs2.length c2);have hbb:b4≠b5:=hb45.2.2;have hc5:=λo (h:o<2)=>(World.cell?_of_block (a:=⟨b5,o,none⟩) (hst1.2.block b5 e12 (Ne.symm hb45.2.2)))
      have p3':=(hc5 0 (by decide)).trans p3;have p4':=(hc5 1 (by decide)).trans p4;have p5':=λo=>frozen_of_row ((w9.setCell ⟨b4,0,none⟩ (.int .i64 g2)).setCell ⟨b4,1,none⟩ (.slice D2 us2.length d2)) b5 o _ _ q3
      go_upto_region 6 with fail
      generalize hwq:(((w9.setCell ⟨b4,0,none⟩ (.int .i64 g2)).setCell ⟨b4,1,none⟩ (.slice D2 us2.length d2)).setCell ⟨b5,0,none⟩ (.int .i64 f2)).setCell ⟨b5,1,none⟩ (.slice A2 zs2.length c2)=wq at hst2 ⊢;have hb4q:=hst1.1.upd hst2.2 hbb;have hxq:=(HX19.out.upd hst1.2 (by omega)).upd hst2.2 (by omega);have hlowq:Below w.heap.size w wq:=(Hlow9.out.trans (hst1.2.toLow (by omega) (λk e=>by omega))).trans (hst2.2.toLow (by have:=hst1.2.size;omega) (λk e=>by omega));have Hb4q:=Lh hb4q;have Hb5q:=Lh hst2.1;have HXq:=Lh hxq;have Hlowq:=Lh hlowq;have HSq:=Lh (HF.out.step HS.out hlowq);have hr:=Hsp.out (.mk g2 us2) (.mk f2 zs2) rfl rfl rfl rfl;have Hr:=Lh hr;clear hr p0 p1 p2 p3 p4 p5 hst1 hst2 q3 p3' p4' p5' hc5 hb4q hxq hlowq hwq;have hFq:∀k,MtF bm gm wq k->k<w.heap.size:=λk hk=>HF.out.lt m w k HS.out ((HF.out.low m w wq HS.out Hlowq.out).2 k hk)
      have HFq:=Lh hFq;obtain⟨vo,vals,hMt⟩:=HSq.out.st;obtain⟨y0,y1,-⟩:=hMt.box.cells;obtain⟨Ao,co,hvo,-,-⟩:=hMt.own.form;have hkl:(dS m).length=m.length:=(by unfold dS;simp);rw[hkl]at hvo;subst hvo;have hzq:=Hlowq.out.size;obtain⟨k1,hk1,-⟩:=fQ m (.mk f1 zs1) (.mk g2 us2);obtain⟨b1,hb1⟩:∃b,(bH m (.mk f1 zs1) (.mk g2 us2)).1=b:=⟨_,rfl⟩;have ht1:bH m (.mk f1 zs1) (.mk g2 us2)=(b1,m++k1):=(by rw[<-hb1,<-hk1]);have Ht1:=Lh ht1;obtain⟨p0,p1,-⟩:=Hb4q.out.cells;obtain⟨x0,x1,x2,x3,x4⟩:=HXq.out.cells;have hp1':=hp1;clear hMt hFq ht1 hk1 hb1 hkl;cases b1 with
      | false=>
       go_upto_region 9 with(
        go_at_call 76
        refine(eE B bm gm hgt hgb f1 g2 zs1 us2 _ _ m _ hp1 (Stp.rd HF.out HS.out HSq.out R1.out hB) (Stp.rd HF.out HS.out HSq.out S2.out hB) (by omega) HSq.out.st).mono ?_;rintro e w10 ⟨rfl,hst⟩;rw[Ht1.out]at hst;rw[Ht1.out];have Hst:=Lh hst;clear hst)
       have hbk:=gM B bm gm hgt hgb m k1 w10 Hst.out.st;have Hbk:=Lh hbk;clear hbk;go_wp2_with (
        go_at_call 81
        refine Hbk.out.mono ?_;rintro e w11 ⟨rfl,hst11⟩;have Hst11:=Lh hst11;clear hst11)
       go_ret;have hrr:r=(false,m):=(by rw[Hr.out,if_neg (by rintro⟨h,-⟩;rw[Ht1.out]at h;cases h)]);rw[hrr];exact⟨rfl,(HSq.out.trans Hst.out).trans Hst11.out⟩
      | true=>
       obtain⟨k2,hk2,-⟩:=fQ (m++k1) (.mk g1 us1) (.mk f2 zs2);obtain⟨b2,hb2⟩:∃b,(bH (m++k1) (.mk g1 us1) (.mk f2 zs2)).1=b:=⟨_,rfl⟩;have ht2:bH (m++k1) (.mk g1 us1) (.mk f2 zs2)=(b2,m++(k1++k2)):=(by rw[<-hb2,<-List.append_assoc,<-hk2]);have Ht2:=Lh ht2;clear ht2 hk2 hb2;have hrr:r=(b2,if b2 then m++(k1++k2)else m):=by
        rw[Hr.out];simp only[Ht1.out,Ht2.out];cases b2 <;> simp
       have Hrr:=Lh hrr;clear hrr;cases b2 with
       | false=>
        go_upto_region 9 with(
         first
         | (
          go_at_call 76
          with_reducible refine(eE B bm gm hgt hgb f1 g2 zs1 us2 _ _ m _ hp1 (Stp.rd HF.out HS.out HSq.out R1.out hB) (Stp.rd HF.out HS.out HSq.out S2.out hB) (by omega) HSq.out.st).mono ?_
          rintro e w10 ⟨rfl,hst⟩;rw[Ht1.out]at hst;rw[Ht1.out];have Hst:=Lh hst;clear hst;obtain⟨p3,p4,-⟩:=(Hb5q.out.upd Hst.out.upd (λe=>by have:=HFq.out _ e;omega)).cells;obtain⟨-,-,-,x3',x4'⟩:=(HXq.out.upd Hst.out.upd (λe=>by have:=HFq.out _ e;omega)).cells;have hz10:=Hst.out.upd.size)
         | (
          go_at_call 76
          with_reducible refine(eE B bm gm hgt hgb g1 f2 us1 zs2 _ _ (m++k1) _ hp2 (Stp.rd HF.out HS.out (HSq.out.trans Hst.out) S1.out hB) (Stp.rd HF.out HS.out (HSq.out.trans Hst.out) R2.out hB) (by omega) Hst.out.st).mono ?_
          rintro e w11 ⟨rfl,hst2⟩;rw[Ht2.out]at hst2;rw[Ht2.out];have Hst2:=Lh hst2;clear hst2))
        have hbk:=gM B bm gm hgt hgb m (k1++k2) w11 Hst2.out.st;have Hbk:=Lh hbk;clear hbk;go_wp2_with (
         go_at_call 81
         refine Hbk.out.mono ?_;rintro e w12 ⟨rfl,hst12⟩;have Hst12:=Lh hst12;clear hst12)
        go_ret;rw[Hrr.out];exact⟨rfl,((HSq.out.trans Hst.out).trans Hst2.out).trans Hst12.out⟩
       | true=>
        go_wp2_with (
         first
         | (
          go_at_call 76
          with_reducible refine(eE B bm gm hgt hgb f1 g2 zs1 us2 _ _ m _ hp1 (Stp.rd HF.out HS.out HSq.out R1.out hB) (Stp.rd HF.out HS.out HSq.out S2.out hB) (by omega) HSq.out.st).mono ?_
          rintro e w10 ⟨rfl,hst⟩;rw[Ht1.out]at hst;rw[Ht1.out];have Hst:=Lh hst;clear hst;obtain⟨p3,p4,-⟩:=(Hb5q.out.upd Hst.out.upd (λe=>by have:=HFq.out _ e;omega)).cells;obtain⟨-,-,-,x3',x4'⟩:=(HXq.out.upd Hst.out.upd (λe=>by have:=HFq.out _ e;omega)).cells;have hz10:=Hst.out.upd.size)
         | (
          go_at_call 76
          with_reducible refine(eE B bm gm hgt hgb g1 f2 us1 zs2 _ _ (m++k1) _ hp2 (Stp.rd HF.out HS.out (HSq.out.trans Hst.out) S1.out hB) (Stp.rd HF.out HS.out (HSq.out.trans Hst.out) R2.out hB) (by omega) Hst.out.st).mono ?_
          rintro e w11 ⟨rfl,hst2⟩;rw[Ht2.out]at hst2;rw[Ht2.out];have Hst2:=Lh hst2;clear hst2))
        go_ret;rw[Hrr.out];exact⟨rfl,(HSq.out.trans Hst.out).trans Hst2.out⟩
   have q:(t1 !=t2)=true:=bne_iff_ne.2 ht;obtain rfl:=Hno.out (.inr ht);have Ht:=Lh ht;clear ht;go_enter Try.func79,Try.ntmps79;go_upto_region 1 with fail
   obtain⟨hx1,hx2,hB2,hz2⟩:=aO w (.cells #[.bool n1,.int .i64 f1,.slice A1 zs1.length c1,.int .i64 g1,.slice D1 us1.length d1] 53) (.cells #[.bool n1,.int .i64 f2,.slice A2 zs2.length c2,.int .i64 g2,.slice D2 us2.length d2] 53);have hx1:eT w.heap.size 53 (.bool n1) (.int .i64 f1) (.slice A1 zs1.length c1) (.int .i64 g1) (.slice D1 us1.length d1) _:=hx1;have hx2:eT (w.heap.size+1) 53 (.bool n1) (.int .i64 f2) (.slice A2 zs2.length c2) (.int .i64 g2) (.slice D2 us2.length d2) _:=hx2;generalize (w.alloc (.cells #[.bool n1,.int .i64 f1,.slice A1 zs1.length c1,.int .i64 g1,.slice D1 us1.length d1] 53)).alloc (.cells #[.bool n1,.int .i64 f2,.slice A2 zs2.length c2,.int .i64 g2,.slice D2 us2.length d2] 53)=w2 at hx1 hx2 hB2 hz2 ⊢;have HX1:=Lh hx1;have HX2:=Lh hx2;have HB2:=Lh hB2;clear hx1 hx2 hB2;refine rg 12 (λ_ w'=>Below w2.heap.size w2 w') ?_;intro wd hwd hbd;refine⟨?_,λhS=>?_⟩
   . exact hwd ▸ hbd
   refine ta 0 (.pointer (some ⟨w.heap.size,0,none⟩)) hS λhS=>?_
   refine tk 1 (.bool n1) hS ?_ λhS=>?_
   . intro w' L hn hw;have o5:=(HX1.out.upd (Upd.low hw (λ_=>False)) id).cells;simp[execOp,go_sem,o5.1]
   refine ta 2 (.pointer (some ⟨w.heap.size+1,0,none⟩)) hS λhS=>?_
   refine tk 3 (.bool n1) hS ?_ λhS=>?_
   . intro w' L hn hw;have o6:=(HX2.out.upd (Upd.low hw (λ_=>False)) id).cells;simp[execOp,go_sem,o6.1]
   refine ta 4 (.bool false) hS λhS=>?_
   refine ta 5 (.bool false) hS λhS=>?_
   refine tk 6 (.agg #[.bool n1,.int .i64 f1,.slice A1 zs1.length c1,.int .i64 g1,.slice D1 us1.length d1]) hS ?_ λhS=>?_
   . intro w' L hn hw;have o5:=(HX1.out.upd (Upd.low hw (λ_=>False)) id).cells;simp[execOp,go_sem,o5.1,o5.2.1,o5.2.2.1,o5.2.2.2.1,o5.2.2.2.2]
   refine tk 8 (.agg #[.bool n1,.int .i64 f2,.slice A2 zs2.length c2,.int .i64 g2,.slice D2 us2.length d2]) hS ?_ λhS=>?_
   . intro w' L hn hw;have o6:=(HX2.out.upd (Upd.low hw (λ_=>False)) id).cells;simp[execOp,go_sem,o6.1,o6.2.1,o6.2.2.1,o6.2.2.2.1,o6.2.2.2.2]
   refine so 7 ?_;have hbd2:Below w2.heap.size w2 wd:=hwd ▸ hbd;have hlow:Below w.heap.size w wd:=HB2.out.trans (hbd2.mono (by omega));have hzd:wd.heap.size=w2.heap.size:=by rw[hwd]
   have hc7:=jJ n1 f1 g1 zs1 us1 A1 D1 c1 d1 B wd (R1.out.low hlow hB) (S1.out.low hlow hB) (by omega);rw[HT1.out]at hc7;refine aG ?_ hc7 ?_
   . simp[execOp,resolve,invoke,go_sem]
   rintro e w6 ⟨rfl,hb6⟩;refine⟨_,rfl,?_⟩;refine gS ?_ λhS=>?_
   . exact hS.trans (hb6.mono hS.size)
   refine so 9 ?_;have hlow6:Below w.heap.size w w6:=hlow.trans (hb6.mono (by omega));have hc9:=jJ n1 f2 g2 zs2 us2 A2 D2 c2 d2 B w6 (R2.out.low hlow6 hB) (S2.out.low hlow6 hB) (by have:=hb6.size;omega);rw[HT2.out]at hc9;refine aG ?_ hc9 ?_
   . simp[execOp,resolve,invoke,go_sem]
   rintro e w7 ⟨rfl,hb7⟩;refine⟨_,rfl,?_⟩;refine gS ?_ λhS=>?_
   . exact hS.trans (hb7.mono hS.size)
   refine tk 10 (.bool true) hS ?_ λhS=>?_
   . intros;simp[execOp,go_sem,Ht.out]
   refine ta 11 (.bool true) hS λhS=>?_
   refine dn ?_;have Hlow7:=Lh hS;clear hS hb7 hlow6 hb6 hlow hbd2 hwd hbd hzd;have hst:=HF.out.step HS.out (HB2.out.trans (Hlow7.out.mono (by omega)));have Hst:=Lh hst;clear hst;go_wp2_with fail;go_ret;exact⟨rfl,Hst.out⟩
 have q:(n1 !=n2)=true:=bne_iff_ne.2 hn;obtain rfl:=Hno.out (.inl hn);have Hn:=Lh hn;clear hn;go_enter Try.func79,Try.ntmps79;go_upto_region 1 with fail
 obtain⟨hx1,hx2,hB2,hz2⟩:=aO w (.cells #[.bool n1,.int .i64 f1,.slice A1 zs1.length c1,.int .i64 g1,.slice D1 us1.length d1] 53) (.cells #[.bool n2,.int .i64 f2,.slice A2 zs2.length c2,.int .i64 g2,.slice D2 us2.length d2] 53);have hx1:eT w.heap.size 53 (.bool n1) (.int .i64 f1) (.slice A1 zs1.length c1) (.int .i64 g1) (.slice D1 us1.length d1) _:=hx1;have hx2:eT (w.heap.size+1) 53 (.bool n2) (.int .i64 f2) (.slice A2 zs2.length c2) (.int .i64 g2) (.slice D2 us2.length d2) _:=hx2;generalize (w.alloc (.cells #[.bool n1,.int .i64 f1,.slice A1 zs1.length c1,.int .i64 g1,.slice D1 us1.length d1] 53)).alloc (.cells #[.bool n2,.int .i64 f2,.slice A2 zs2.length c2,.int .i64 g2,.slice D2 us2.length d2] 53)=w2 at hx1 hx2 hB2 hz2 ⊢;have HX1:=Lh hx1;have HX2:=Lh hx2;have HB2:=Lh hB2;clear hx1 hx2 hB2;refine rg 12 (λ_ w'=>Below w2.heap.size w2 w') ?_;intro wd hwd hbd;refine⟨?_,λhS=>?_⟩
 . exact hwd ▸ hbd
 refine ta 0 (.pointer (some ⟨w.heap.size,0,none⟩)) hS λhS=>?_
 refine tk 1 (.bool n1) hS ?_ λhS=>?_
 . intro w' L hn hw;have o5:=(HX1.out.upd (Upd.low hw (λ_=>False)) id).cells;simp[execOp,go_sem,o5.1]
 refine ta 2 (.pointer (some ⟨w.heap.size+1,0,none⟩)) hS λhS=>?_
 refine tk 3 (.bool n2) hS ?_ λhS=>?_
 . intro w' L hn hw;have o6:=(HX2.out.upd (Upd.low hw (λ_=>False)) id).cells;simp[execOp,go_sem,o6.1]
 refine tk 4 (.bool true) hS ?_ λhS=>?_
 . intros;simp[execOp,go_sem,Hn.out]
 refine ta 5 (.bool true) hS λhS=>?_
 refine sk 6 hS λhS=>?_
 refine sk 7 hS λhS=>?_
 refine sk 8 hS λhS=>?_
 refine sk 9 hS λhS=>?_
 refine sk 10 hS λhS=>?_
 refine ta 11 (.bool true) hS λhS=>?_
 refine dn ?_;have Hlow7:=Lh hS;clear hS hwd hbd;have hst:=HF.out.step HS.out (HB2.out.trans (Hlow7.out.mono (by omega)));have Hst:=Lh hst;clear hst;go_wp2_with fail;go_ret;exact⟨rfl,Hst.out⟩
def goS (d:Cl)(x:Lt)(K:(Nat->Bool)->Nat->Mt->Bool × Nat)(used:Nat->Bool)(m:Mt):List Nat->Nat->Bool × Nat
 | [],t=>(false,t)
 | n::ns,t=>
  if used (n / 2)=true then goS d x K used m ns t
  else if 10000<t+1 then(false,t+1)
  else match d[n / 2]? with
   | none=>(false,t)
   | some y=>
    if (eL m x y (decide (n % 2=1))).1=true then
     (
      if (K (λi=>if i=n / 2 then true else used i) (t+1) (eL m x y (decide (n % 2=1))).2).1=true then K (λi=>if i=n / 2 then true else used i) (t+1) (eL m x y (decide (n % 2=1))).2
      else goS d x K used m ns (K (λi=>if i=n / 2 then true else used i) (t+1) (eL m x y (decide (n % 2=1))).2).2)
    else goS d x K used m ns (t+1)
def bR (d:Cl):List Lt->(Nat->Bool)->Nat->Mt->Bool × Nat
 | [],_,t,_=>(true,t)
 | x::rest,used,t,m=>goS d x (bR d rest) used m (List.range (2*d.length)) t
theorem uX (d:Cl)(x:Lt)(K:(Nat->Bool)->Nat->Mt->Bool × Nat)(used:Nat->Bool)(m:Mt)(L:Nat)(hK:∀u t m,t<=10000->(K u t m).2<=10001+L):
 ∀(ns:List Nat) (t:Nat),t<=10001+L->(goS d x K used m ns t).2<=10001+(L+1)
 | [],t,h=>by rw[goS];simp only;omega
 | n::ns,t,h=>by
  rw[goS];split
  . exact uX d x K used m L hK ns t h
  split
  . simp only;omega
  rename_i h2
  split
  . simp only;omega
  rename_i y hy
  split
  . have h3:=hK (λi=>if i=n / 2 then true else used i) (t+1) (eL m x y (decide (n % 2=1))).2 (by omega);split
    . omega
    exact uX d x K used m L hK ns _ h3
  exact uX d x K used m L hK ns _ (by omega)
theorem rG (d:Cl):∀(rest:List Lt) (used:Nat->Bool) (t:Nat) (m:Mt),t<=10000->(bR d rest used t m).2<=10001+rest.length
 | [],used,t,m,h=>by rw[bR];simp only;omega
 | x::rest,used,t,m,h=>by
  rw[bR];exact uX d x _ used m rest.length (λu t m h=>rG d rest u t m h) _ t (by omega)
def dX (c d:Cl)(i j:Nat)(turned:Bool):Bool:=match c[j]?,d[i]? with
 | some x,some y=>(eL [] ⟨!x.neg,x.l,x.r⟩ y turned).1&&(bR d (c.eraseIdx j) (λn=>decide (n=i)) 0 (eL [] ⟨!x.neg,x.l,x.r⟩ y turned).2).1
 | _,_=>false
def pX (c d:Cl)(i j:Nat):Bool:=dX c d i j false || dX c d i j true
def aB9 (c d:Cl)(i:Nat):Bool:=(List.range c.length).any (pX c d i)
/-! ## A row of literals as its cells -/
def mG (w:World)(B:Nat)(c:Cl)(rows:List (List Value)):Prop:=rows.length=c.length/\∀k (h:k<c.length) (h':k<rows.length),rows[k].length=5/\LtV w B c[k] (.agg rows[k].toArray)
theorem LtV.low {w w':World} {B:Nat} {x:Lt} {v:Value} (h:LtV w B x v)(hb:Below B w w'):LtV w' B x v:=by
 obtain⟨A1,c1,A2,c2,h1,h2,h3⟩:=h;exact⟨A1,c1,A2,c2,h1,h2.low hb (Nat.le_refl _),h3.low hb (Nat.le_refl _)⟩
theorem mG.low {w w':World} {B:Nat} {c:Cl} {rows:List (List Value)} (h:mG w B c rows)(hb:Below B w w'):mG w' B c rows:=
 ⟨h.1,λk h1 h2=>⟨(h.2 k h1 h2).1,(h.2 k h1 h2).2.low hb⟩⟩
theorem mG.erase {w:World} {B:Nat} {c:Cl} {rows:List (List Value)} (h:mG w B c rows)(i:Nat):mG w B (c.eraseIdx i) (rows.eraseIdx i):=by
 obtain⟨h1,h2⟩:=h;refine⟨by simp[List.length_eraseIdx,h1],λk hk hk'=>?_⟩;rw[List.getElem_eraseIdx,List.getElem_eraseIdx];have hl:k<(c.eraseIdx i).length:=hk;rw[List.length_eraseIdx]at hl;by_cases hki:k<i
 . simp only[hki,dif_pos];exact h2 k (by split at hl <;> omega) (by split at hl <;> omega)
 simp only[hki,dif_neg,not_false_eq_true];exact h2 (k+1) (by split at hl <;> omega) (by split at hl <;> omega)
abbrev uH:={r:List Value // ∀u∈r,u.oneCell'=true}
theorem wU {xs:List uH}:∀r∈xs.map (λr=>r.1.map Tr.leaf),∀t∈r,∀y,t=Tr.leaf y->y.oneCell'=true:=by
 intro r hr t ht y hy;obtain⟨q,_,rfl⟩:=List.mem_map.1 hr;obtain⟨u,hu,e⟩:=List.mem_map.1 ht;rw[hy]at e;injection e with e
 exact e ▸ q.2 u hu
theorem yK (xs:List uH)(v:Value)(M:Nat->Prop)(w:World)(hr:RdP w M (.sl 5 ((xs.map λr=>r.1.map Tr.leaf))) v)(hn:xs.length<=1000000000):
 Calls Try.prog 85 #[v] w (yE M 53 5 ((xs.map λr=>r.1.map Tr.leaf)) w):=by
 have hrr:=hr.rd';obtain⟨A,c,rfl,hc,hn0,hm⟩:=Rd.row_form hrr;have hlen:((xs.map λr=>r.1.map Tr.leaf)).length=xs.length:=by simp[List.length_map]
 cases A with
 | none=>
  have hx:((xs.map λr=>r.1.map Tr.leaf))=[]:=by
   rcases hrr.sl_inv with⟨h,_⟩ | ⟨b,off,c',us,hv,_⟩
   . exact h
   cases hv
  rw[hx];have Hlen:=Lh hlen;have hx0:xs.length=0:=by rw[<-hlen,hx];rfl
  have hc0:c=0:=by
   rcases hrr.sl_inv with⟨_,A',hv⟩ | ⟨b,off,c',us,hv,_⟩
   . injection hv
   cases hv
  rw[hx0,hc0];have heq:=λw=>Lib.run_eql_slice_nil (P:=Try.prog) w 38 53 none 0 0 0 0 nW.ht
  clear hr hrr hx hlen hc hm hn0 hc0 Hlen;go_enter Try.func85,Try.ntmps85;go_wp2_with fail;go_ret;exact⟨_,rfl,bC.nil _ _ _ _ _,Below.refl _ _⟩
 | some a=>
  have Hlen:=Lh hlen;have HR:=Lh hr;have heq:=λw=>Lib.run_eql_slice_nil (P:=Try.prog) w 38 53 (some a) xs.length c 0 0 nW.ht
  clear hr hrr hlen;go_enter Try.func85,Try.ntmps85;go_wp2_with (first
   | (
    at_builtin
    go_loud (refine fC _ rfl (.tmp 5) (.tmp 6) _ rfl nW (M:=M) (base:=w.heap.size) (trs:=[]) (news:=(xs.map λr=>r.1.map Tr.leaf)) rfl (bC.empty (g:=w.heap.size) (by exact heap_alloc_new w _) (Nat.le_refl _)) rfl ((HR.out.more (P':=λb=>M b/\b<w.heap.size) (λb hb hlt=>⟨hb,hlt⟩)).low (aD w _) |>.more (λb hb _=>⟨.inl hb.1,λe=>by have e2:w.heap.size=b:=Option.some.inj e;have:=hb.2;omega⟩)) wU (by rw[Hlen.out];simp;omega) (by rw[Hlen.out];unfold maxLen;simp;omega) (by simp) ?_)
    intro v4 w4 hown4 hup4 _;have Hown4:=Lh hown4;have Hup4:=Lh hup4;clear hown4 hup4))
  go_ret;refine⟨_,rfl,by simpa using Hown4.out,?_⟩;exact(aD w _).trans (Hup4.out.toLow (by simp) (by rintro k hk;have e2:w.heap.size=k:=Option.some.inj hk;omega))
theorem Rd.rows_of {w:World} {B:Nat} {c:Cl} {v:Value} (h:Rd w B (aT c) v)(hB:B<=w.heap.size):
 ∃rows:List uH,mG w B c (rows.map (·.1))/\rows.length=c.length/\RdP w (λb=>b<B) (.sl 5 (rows.map λr=>r.1.map Tr.leaf)) v:=by
 unfold aT at h;rcases h.sl_inv with⟨h0,A,hv⟩ | ⟨b,off,cap,us,hv,hc,hn,hm,hb,hcell,hr⟩
 . have hc0:c=[]:=by simpa using h0
   subst hc0 hv;refine⟨[],⟨rfl,λk h=>by simp at h⟩,rfl,?_⟩;cases A with
   | none=>exact .none_ _
   | some a=>exact .empty _ _
 rw[List.length_map]at hv hc hn;have hlt:∀k (hk:k<c.length),LtV w B c[k] (.agg #[us k 0,us k 1,us k 2,us k 3,us k 4])/\∀j,j<5->(us k j).oneCell'=true:=by
  intro k hk;have hrow:(c.map aQ)[k]'(by simpa using hk)=aQ c[k]:=by simp
  rcases hx:c[k]with⟨n,⟨f,xs⟩,⟨g,ys⟩⟩
  rw[hx]at hrow;have h0:=hr k (by simpa using hk) 0 (by rw[hrow];simp[aQ,bB]);have h1:=hr k (by simpa using hk) 1 (by rw[hrow];simp[aQ,bB]);have h2:=hr k (by simpa using hk) 2 (by rw[hrow];simp[aQ,bB]);have h3:=hr k (by simpa using hk) 3 (by rw[hrow];simp[aQ,bB]);have h4:=hr k (by simpa using hk) 4 (by rw[hrow];simp[aQ,bB]);simp only[hrow,aQ,bB,List.cons_append,List.nil_append,List.getElem_cons_zero,List.getElem_cons_succ]at h0 h1 h2 h3 h4;have e0:=h0.leaf_inv;have e1:=h1.leaf_inv;have e3:=h3.leaf_inv;obtain⟨A1,c1,e2,-⟩:=h2.tm_form;obtain⟨A2,c2,e4,-⟩:=h4.tm_form;rw[e2]at h2;rw[e4]at h4;refine⟨⟨A1,c1,A2,c2,by rw[e0,e1,e2,e3,e4];rfl,h2,h4⟩,λj hj=>?_⟩;rcases(by omega:j=0\/j=1\/j=2\/j=3\/j=4)with rfl | rfl | rfl | rfl | rfl
  . rw[e0];rfl
  . rw[e1];rfl
  . rw[e2];rfl
  . rw[e3];rfl
  rw[e4];rfl
 have hone:∀k (hk:k<c.length),∀u∈[us k 0,us k 1,us k 2,us k 3,us k 4],u.oneCell'=true:=by
  intro k hk u hu;simp only[List.mem_cons,List.not_mem_nil,or_false]at hu;rcases hu with rfl | rfl | rfl | rfl | rfl
  . exact(hlt k hk).2 0 (by decide)
  . exact(hlt k hk).2 1 (by decide)
  . exact(hlt k hk).2 2 (by decide)
  . exact(hlt k hk).2 3 (by decide)
  exact(hlt k hk).2 4 (by decide)
 refine⟨List.ofFn (n:=c.length) (λk=>⟨[us k 0,us k 1,us k 2,us k 3,us k 4],hone k k.2⟩),⟨by simp,λk hk hk'=>?_⟩,by simp,?_⟩
 . simp only[List.getElem_map,List.getElem_ofFn];exact⟨rfl,(hlt k hk).1⟩
 rw[hv];have:=RdP.row (w:=w) (P:=λb=>b<B) 5 b off cap ((List.ofFn (n:=c.length) (λk=>(⟨[us k 0,us k 1,us k 2,us k 3,us k 4],hone k k.2⟩:uH))).map λr=>r.1.map Tr.leaf) us
  (by intro r hr;simp only[List.mem_map]at hr;obtain⟨q,hq,rfl⟩:=hr;rw[List.mem_ofFn]at hq;obtain⟨i,rfl⟩:=hq;rfl)
  (by simpa using hc) (by simpa using hn) hm hb (by omega) (λk j hk hj=>hcell k j (by simpa using hk) hj)
  (by
   intro k hk j hj;simp only[List.getElem_map,List.getElem_ofFn];simp only[List.getElem_map,List.getElem_ofFn,List.length_map,List.length_cons,List.length_nil]at hj;rcases(by omega:j=0\/j=1\/j=2\/j=3\/j=4)with rfl | rfl | rfl | rfl | rfl <;> exact .leaf _)
 simpa using this
theorem bC.raw {w:World} {M:Nat->Prop} {base size:Nat} {e:TypeId} {v:Value} {L:List (List Value)} (h:bC w M base e size v (L.map λr=>r.map Tr.leaf)):Own w base e size v L:=by
 obtain⟨rows,ho,hl,hr,hc⟩:=h;have:rows=L:=by
  rw[List.length_map]at hl;refine List.ext_getElem hl λk h1 h2=>?_
  have hlen:rows[k].length=(L[k].map Tr.leaf).length:=by
   rw[ho.2 _ (List.getElem_mem h1)];exact(hr _ (List.mem_map.2 ⟨L[k],List.getElem_mem h2,rfl⟩)).symm
  rw[List.length_map]at hlen;refine List.ext_getElem hlen λj h3 h4=>?_
  have:=hc k (by simpa using h2) h1 j (by simpa using h4) h3;simp only[List.getElem_map]at this;exact this.leaf_inv
 subst this;exact ho
theorem pA (c:Cl)(i:Nat)(v:Value)(B:Nat)(w:World)(hr:Rd w B (aT c) v)(hB:B<=w.heap.size)(hi:i<c.length)(hn:c.length<=1000000000):
 Calls Try.prog 64 #[v,.int .i64 (i:Nat)] w (λe w'=>∃vr rows,e=.returned vr/\Own w' w.heap.size 53 5 vr rows/\mG w' B (c.eraseIdx i) rows/\Below w.heap.size w w'):=by
 obtain⟨rows,hrl,hlen,hrd⟩:=hr.rows_of hB;have HR:=Lh hrd;have Hrl:=Lh hrl;have hlm:(rows.map λr=>r.1.map Tr.leaf).length=c.length:=by rw[List.length_map,hlen]
 have hdel:∀(w1:World) (g c1:Nat),bC w1 (λb=>b<B) w.heap.size 53 5 (.slice (some ⟨g,0,none⟩) c.length c1) (rows.map λr=>r.1.map Tr.leaf)->Calls Try.prog 84 #[.slice (some ⟨g,0,none⟩) c.length c1,.int .i64 i,.int .i64 ((i:Int)+1)] w1 (aN2 (λb=>b<B) w.heap.size g c1 ((rows.map λr=>r.1.map Tr.leaf).eraseIdx i) w1):=by
  intro w1 g c1 h;have:=pY (λb=>b<B) w.heap.size g c1 i (rows.map λr=>r.1.map Tr.leaf) w1 (by rw[hlm];exact h) (by rw[hlm];exact hi) (by rw[hlm];exact hn) wU;rw[hlm]at this;exact this
 obtain⟨res,hres⟩:∃res,(rows.map λr=>r.1.map Tr.leaf).eraseIdx i=res:=⟨_,rfl⟩;rw[hres]at hdel;have Hdel:=Lh hdel;have Hlm:=Lh hlm;have Hres:=Lh hres;clear hr hdel hrd hrl hlm hres;go_enter Try.func64,Try.ntmps64;go_wp2_with (first
  | (
   go_at_call 85
   refine(yK rows _ (λb=>b<B) w HR.out (by omega)).mono ?_;rintro e w1 ⟨v1,rfl,hown,hb⟩;obtain⟨g,c1,hv1,hg1,hg2⟩:=hown.some_ (by rw[Hlm.out];omega);rw[Hlm.out]at hv1;subst hv1;have Hown:=Lh hown;have Hb:=Lh hb;clear hown hb)
  | (
   go_at_call 84
   refine(Hdel.out w1 g c1 Hown.out).mono ?_;rintro e w2 ⟨rfl,hown2,hup⟩;have Hown2:=Lh hown2;have Hup:=Lh hup;clear hown2 hup))
 go_ret;have hfin:=Hb.out.trans (Hup.out.toLow (B:=w.heap.size) (by have:=Hb.out.size;omega) (by rintro k rfl;omega));have e:(rows.map λr=>r.1.map Tr.leaf).eraseIdx i=((rows.map (·.1)).eraseIdx i).map (λr=>r.map Tr.leaf):=by
  rw[<-gH,List.map_map];rfl
 have h1:=Hown2.out;rw[<-Hres.out,e]at h1;rw[<-Hres.out,e];exact⟨_,(rows.map (·.1)).eraseIdx i,rfl,bC.raw h1,(Hrl.out.erase i).low (hfin.mono hB),hfin⟩
section
variable {B bm gm:Nat} {m:Mt} {vo:Value} {vals:Int->Value} {w w':World}
theorem MtR.upd {F:Nat->Prop} (h:MtR B bm gm m vo vals w)(hu:Upd w w' F)(hF:∀k,F k->¬MtF bm gm w k/\B<=k)(hB:B<=w.heap.size):MtR B bm gm m vo vals w':=by
 have hn:∀k,MtF bm gm w k->¬F k:=λk h1 h2=>(hF k h2).1 h1
 exact⟨h.box.upd hu (hn bm (.inl rfl)),h.own.upd hu (λg e=>hn g ((h.f_iff g).2 (.inr (.inr e)))),h.map.upd hu (hn gm (.inr (.inl rfl))),λx t hx=>hu.keepRd (h.rd x t hx) hB (λk hk=>(hF k hk).2),h.ok,h.neg⟩
theorem MtI.upd {F:Nat->Prop} (h:MtI B bm gm m w)(hu:Upd w w' F)(hF:∀k,F k->¬MtF bm gm w k/\B<=k)(hB:B<=w.heap.size):MtI B bm gm m w'/\∀k,MtF bm gm w' k↔MtF bm gm w k:=by
 obtain⟨vo,vals,h⟩:=h;have h':=h.upd hu hF hB;exact⟨⟨vo,vals,h'⟩,λk=>(h'.f_iff k).trans (h.f_iff k).symm⟩
end
theorem aU.upd {b:Nat} {t:TypeId} {v:Value} {w w':World} {F:Nat->Prop} (h:aU b t v w)(hu:Upd w w' F)(hF:¬F b):aU b t v w':=(hu.block b (eA h) hF).trans h
theorem aU.lt {b:Nat} {t:TypeId} {v:Value} {w:World} (h:aU b t v w):b<w.heap.size:=eA h
theorem aU.ne {b b':Nat} {t t':TypeId} {v v':Value} {w:World} (h:aU b t v w)(h':aU b' t' v' w)(hne:t≠t'):b≠b':=by
 rintro rfl;unfold aU at h h';rw[h]at h';injection h' with h'
 injection h' with _ h'
 exact hne h'
theorem aU.ne_map {K:Type} [DecidableEq K] {b g:Nat} {t:TypeId} {v:Value} {w:World} {enc:K->Value} {f:K->Option Value} (h:aU b t v w)(h':bK w g enc f):b≠g:=by
 rintro rfl;obtain⟨es,ck,kv,hg,_⟩:=h';unfold aU at h;rw[h]at hg;injection hg with hg
 cases hg
structure SeC where
 (B bm gm gu br bd bu bt bp bs:Nat)
 (rest d:Cl)
 (vr vd:Value)
 (rows:List (List Value))
def SeC.func (s:SeC):Value:=.func (.func 80) #[] #[.pointer (some ⟨s.br,0,none⟩),.pointer (some ⟨s.bd,0,none⟩),.pointer (some ⟨s.bu,0,none⟩),.pointer (some ⟨s.bt,0,none⟩),.pointer (some ⟨s.bp,0,none⟩),.pointer (some ⟨s.bs,0,none⟩)]
def SeC.stat (s:SeC)(b:Nat):Prop:=b=s.br\/b=s.bd\/b=s.bu\/b=s.bt\/b=s.bp\/b=s.bs\/b=s.gu\/s.vr.ownBlock=some b
def gK (w:World)(g:Nat)(used:Nat->Bool):Prop:=∃U:Int->Option Bool,bK w g cE (λx=>(U x).map Value.bool)/\∀n:Nat,(U (n:Int)).getD false=used n
theorem gK.upd {w w':World} {g:Nat} {used:Nat->Bool} {F:Nat->Prop} (h:gK w g used)(hu:Upd w w' F)(hF:¬F g):gK w' g used:=by
 obtain⟨U,h1,h2⟩:=h;exact⟨U,h1.upd hu hF,h2⟩
theorem gK.lt {w:World} {g:Nat} {used:Nat->Bool} (h:gK w g used):g<w.heap.size:=by obtain⟨U,h1,_⟩:=h;exact h1.lt
theorem aP7 (w:World):(zeroValue 4).run Try.prog w=.ok (.bool false) w:=by kernel_rfl
theorem gK.look {w:World} {g:Nat} {used:Nat->Bool} (h:gK w g used)(n:Nat):(Instr.lookup 125 (.map (some g)) (.int .i64 (n:Nat)) false).run Try.prog w=.ok (.bool (used n)) w:=by
 obtain⟨U,h1,h2⟩:=h;have:=h1.lookup fT Try.underlying125 (aP7 w) (n:Int);rw[<-h2 n];cases hU:U (n:Int)with
 | none=>simpa [cE,hU]using this
 | some b=>simpa [cE,hU]using this
theorem gK.put {w w':World} {g:Nat} {used:Nat->Bool} (h:gK w g used)(n:Nat)(b:Bool)(hm:∀f,bK w g cE f->bK w' g cE (λy=>if y=(n:Int)then some (.bool b)else f y)):gK w' g (λi=>if i=n then b else used i):=by
 obtain⟨U,h1,h2⟩:=h;refine⟨λy=>if y=(n:Int)then some b else U y,(hm _ h1).congr λy=>?_,λi=>?_⟩
 . by_cases hy:y=(n:Int) <;> simp[hy]
 by_cases hi:i=n
 . simp[hi]
 have:¬((i:Int)=(n:Int)):=by omega
 simp[hi,this,h2]
structure SeR (s:SeC)(used:Nat->Bool)(tries:Nat)(m:Mt)(w:World):Prop where
 hbm:s.B<=s.bm
 hgm:s.B<=s.gm
 hgu:s.B<=s.gu
 hbt:s.B<=s.bt
 mt:MtI s.B s.bm s.gm m w
 um:gK w s.gu used
 xr:aU s.br 38 s.vr w
 xd:aU s.bd 38 s.vd w
 xu:aU s.bu 125 (.map (some s.gu)) w
 xt:aU s.bt 3 (.int .i64 (tries:Nat)) w
 xp:aU s.bp 120 (.pointer (some ⟨s.bm,0,none⟩)) w
 xs:aU s.bs 67 s.func w
 own:Own w 0 53 5 s.vr s.rows
 nf:∀b,s.stat b->¬MtF s.bm s.gm w b
 rl:mG w s.B s.rest s.rows
 rd:Rd w s.B (aT s.d) s.vd
def SeF (s:SeC)(w:World)(b:Nat):Prop:=MtF s.bm s.gm w b\/b=s.gu\/b=s.bt
structure SeStep (s:SeC)(w w':World):Prop where
 upd:Upd w w' (SeF s w)
 grow:aO5 (SeF s) w w'
theorem SeStep.trans {s:SeC} {a b c:World} (h:SeStep s a b)(k:SeStep s b c):SeStep s a c:=
 ⟨
  h.upd.trans k.upd h.grow,λi hi=>by
  rcases k.grow i hi with h1 | h1
  . exact h.grow i h1
  exact .inr (Nat.le_trans h.upd.size h1)⟩
theorem SeStep.refl (s:SeC)(w:World):SeStep s w w:=⟨Upd.refl _ _,λ_ h=>.inl h⟩
section
variable {s:SeC} {used:Nat->Bool} {tries:Nat} {m:Mt} {w w':World}
theorem SeR.sz (h:SeR s used tries m w):s.B<=w.heap.size:=by have:=h.hbt;have:=h.xt.lt;omega
theorem SeR.ge (h:SeR s used tries m w):∀k,SeF s w k->s.B<=k:=by
 rintro k (e | e | e)
 . exact(MtI.ok h.hbm h.hgm).ge m w k h.mt e
 . exact e ▸ h.hgu
 exact e ▸ h.hbt
theorem SeR.turn {m':Mt} (h:SeR s used tries m w)(hs:Stp (MtF s.bm s.gm) (MtI s.B s.bm s.gm) m' w w'):SeR s used tries m' w'/\SeStep s w w':=by
 have hn:=h.nf;have hB:=h.sz;have hlow:Below s.B w w':=hs.upd.toLow hB (λk hk=>(MtI.ok h.hbm h.hgm).ge m w k h.mt hk);have hz:=hs.upd.size;refine⟨⟨h.hbm,h.hgm,h.hgu,h.hbt,hs.st,h.um.upd hs.upd (hn _ (.inr (.inr (.inr (.inr (.inr (.inr (.inl rfl)))))))),h.xr.upd hs.upd (hn _ (.inl rfl)),h.xd.upd hs.upd (hn _ (.inr (.inl rfl))),h.xu.upd hs.upd (hn _ (.inr (.inr (.inl rfl)))),
  h.xt.upd hs.upd (hn _ (.inr (.inr (.inr (.inl rfl))))),h.xp.upd hs.upd (hn _ (.inr (.inr (.inr (.inr (.inl rfl)))))),h.xs.upd hs.upd (hn _ (.inr (.inr (.inr (.inr (.inr (.inl rfl))))))),h.own.upd hs.upd (λg e=>hn g (.inr (.inr (.inr (.inr (.inr (.inr (.inr e)))))))),λb hb=>?_,h.rl.low hlow,h.rd.low hlow (Nat.le_refl _)⟩,?_⟩
 . refine(hs.keep ?_ (hn b hb)).2;rcases hb with rfl | rfl | rfl | rfl | rfl | rfl | rfl | e
   . exact h.xr.lt
   . exact h.xd.lt
   . exact h.xu.lt
   . exact h.xt.lt
   . exact h.xp.lt
   . exact h.xs.lt
   . exact h.um.lt
   exact(h.own.lt b e).2
 refine⟨hs.upd.more λi e=>.inl (.inl e),λk hk=>?_⟩;rcases hk with e | e | e
 . exact(hs.grow k e).imp .inl id
 . exact .inl (.inr (.inl e))
 exact .inl (.inr (.inr e))
theorem SeR.low (h:SeR s used tries m w)(hb:Below w.heap.size w w'):SeR s used tries m w'/\SeStep s w w':=h.turn ((MtI.ok h.hbm h.hgm).step h.mt hb)
theorem SeR.tried (h:SeR s used tries m w)(t:Nat):SeR s used t m (w.setCell ⟨s.bt,0,none⟩ (.int .i64 (t:Nat)))/\SeStep s w (w.setCell ⟨s.bt,0,none⟩ (.int .i64 (t:Nat))):=by
 have hu:Upd w (w.setCell ⟨s.bt,0,none⟩ (.int .i64 (t:Nat))) (λk=>k=s.bt):=aM _;have hnt:¬MtF s.bm s.gm w s.bt:=h.nf _ (.inr (.inr (.inr (.inl rfl))));obtain⟨h1,h2⟩:=h.mt.upd hu (by rintro k rfl;exact⟨hnt,h.hbt⟩) h.sz;have hlow:Below s.B w _:=hu.toLow h.sz (by rintro k rfl;exact h.hbt);obtain⟨U,hU,_⟩:=h.um;refine⟨⟨h.hbm,h.hgm,h.hgu,h.hbt,h1,h.um.upd hu (Ne.symm (h.xt.ne_map hU)),h.xr.upd hu (h.xr.ne h.xt (by decide)),h.xd.upd hu (h.xd.ne h.xt (by decide)),h.xu.upd hu (h.xu.ne h.xt (by decide)),h.xt.set _,h.xp.upd hu (h.xp.ne h.xt (by decide)),h.xs.upd hu (h.xs.ne h.xt (by decide)),
  h.own.upd hu (λg e e2=>h.own.ne_cells h.xt (by decide) (e2 ▸ e)),λb hb=>(λe=>h.nf b hb ((h2 b).1 e)),h.rl.low hlow,h.rd.low hlow (Nat.le_refl _)⟩,⟨hu.more λi e=>.inl (.inr (.inr e)),λk hk=>?_⟩⟩
 rcases hk with e | e | e
 . exact .inl (.inl ((h2 k).1 e))
 . exact .inl (.inr (.inl e))
 exact .inl (.inr (.inr e))
theorem SeR.use {used':Nat->Bool} (h:SeR s used tries m w)(hu:Upd w w' (λk=>k=s.gu))(hm:gK w' s.gu used'):SeR s used' tries m w'/\SeStep s w w':=by
 have hnt:¬MtF s.bm s.gm w s.gu:=h.nf _ (.inr (.inr (.inr (.inr (.inr (.inr (.inl rfl)))))));obtain⟨h1,h2⟩:=h.mt.upd hu (by rintro k rfl;exact⟨hnt,h.hgu⟩) h.sz;have hlow:Below s.B w _:=hu.toLow h.sz (by rintro k rfl;exact h.hgu);obtain⟨U,hU,_⟩:=h.um;obtain⟨es,ck,kv,hg,_⟩:=id hU;refine⟨⟨h.hbm,h.hgm,h.hgu,h.hbt,h1,hm,h.xr.upd hu (h.xr.ne_map hU),h.xd.upd hu (h.xd.ne_map hU),h.xu.upd hu (h.xu.ne_map hU),h.xt.upd hu (h.xt.ne_map hU),h.xp.upd hu (h.xp.ne_map hU),h.xs.upd hu (h.xs.ne_map hU),
  h.own.upd hu (λg e e2=>h.own.ne_map hg (e2 ▸ e)),λb hb=>(λe=>h.nf b hb ((h2 b).1 e)),h.rl.low hlow,h.rd.low hlow (Nat.le_refl _)⟩,⟨hu.more λi e=>.inl (.inr (.inl e)),λk hk=>?_⟩⟩
 rcases hk with e | e | e
 . exact .inl (.inl ((h2 k).1 e))
 . exact .inl (.inr (.inl e))
 exact .inl (.inr (.inr e))
end
def aG3 (s:SeC)(r:Bool × Nat)(used:Nat->Bool)(m:Mt)(w:World)(e:Ending)(w':World):Prop:=
 e=.returned (.bool r.1)/\SeStep s w w'/\∃used' m',SeR s used' r.2 m' w'/\(r.1=false->used'=used/\m'=m)
theorem lN {n N:Nat} (h:n<N):(List.range N).drop n=n::(List.range N).drop (n+1):=by
 rw[List.drop_eq_getElem_cons (by simpa using h),List.getElem_range]
theorem kU {w:World} {g:Nat} {U:Int->Option Bool} {used:Nat->Bool} (h2:∀n:Nat,(U (n:Int)).getD false=used n)(n:Nat)(b:Bool)(hm:bK w g cE (λy=>if y=(n:Int)then some (.bool b)else(U y).map Value.bool)):gK w g (λi=>if i=n then b else used i):=by
 refine⟨λy=>if y=(n:Int)then some b else U y,hm.congr λy=>?_,λi=>?_⟩
 . by_cases hy:y=(n:Int) <;> simp[hy]
 by_cases hi:i=n
 . simp[hi]
 have:¬((i:Int)=(n:Int)):=by omega
 simp[hi,this,h2]
theorem SeR.row {s:SeC} {used:Nat->Bool} {tries:Nat} {m:Mt} {w:World} (h:SeR s used tries m w) {k:Nat} (hk:k<s.rest.length):
 ∃g c n f xs A1 c1 g' ys A2 c2,s.vr=.slice (some ⟨g,0,none⟩) s.rest.length c/\s.rest[k]=⟨n,.mk f xs,.mk g' ys⟩/\w.cell? ⟨g,k*5,none⟩=some (.bool n)/\w.cell? ⟨g,k*5+1,none⟩=some (.int .i64 f)/\w.cell? ⟨g,k*5+2,none⟩=some (.slice A1 xs.length c1)/\
  w.cell? ⟨g,k*5+3,none⟩=some (.int .i64 g')/\w.cell? ⟨g,k*5+4,none⟩=some (.slice A2 ys.length c2)/\LtV w s.B s.rest[k] (.agg #[.bool n,.int .i64 f,.slice A1 xs.length c1,.int .i64 g',.slice A2 ys.length c2]):=by
 have hk':k<s.rows.length:=by rw[h.rl.1];exact hk
 obtain⟨h5,hl⟩:=h.rl.2 k hk hk';obtain⟨A,c,hv,-,-⟩:=h.own.form;have hown:=h.own;rw[hv]at hown;obtain⟨g,hA,-,-,hc,-⟩:=hown.row_at hk' (by decide);rw[hA,h.rl.1]at hv;have hl2:=hl;obtain⟨A1,c1,A2,c2,e,-,-⟩:=hl2;rcases hx:s.rest[k]with⟨n,⟨f,xs⟩,⟨g',ys⟩⟩
 rw[hx]at e;simp only[Value.agg.injEq,Tm.fn,Tm.args]at e;have e2:s.rows[k]=[.bool n,.int .i64 f,.slice A1 xs.length c1,.int .i64 g',.slice A2 ys.length c2]:=by
  have:=congrArg Array.toList e;simpa using this
 have c0:=hc 0 (by decide);have c1':=hc 1 (by decide);have c2':=hc 2 (by decide);have c3:=hc 3 (by decide);have c4:=hc 4 (by decide);simp only[e2,List.getElem_cons_zero,List.getElem_cons_succ,Nat.add_zero]at c0 c1' c2' c3 c4;refine⟨g,c,n,f,xs,A1,c1,g',ys,A2,c2,hv,rfl,c0,c1',c2',c3,c4,?_⟩;rw[e,hx]at hl;exact hl
theorem rH (s:SeC)(hpat:∀x∈s.rest,eV x.l=true/\eV x.r=true)(hL:s.rest.length<=1000000)(hN:s.d.length<=1000000)(D:Nat):
 ∀(k:Nat) (used:Nat->Bool) (tries:Nat) (m:Mt) (w:World),s.rest.length-k<D->k<=s.rest.length->tries<=10000->SeR s used tries m w->
 Calls Try.prog 80 #[.int .i64 (k:Nat),.pointer (some ⟨s.br,0,none⟩),.pointer (some ⟨s.bd,0,none⟩),.pointer (some ⟨s.bu,0,none⟩),.pointer (some ⟨s.bt,0,none⟩),.pointer (some ⟨s.bp,0,none⟩),.pointer (some ⟨s.bs,0,none⟩)] w
  (aG3 s (bR s.d (s.rest.drop k) used tries m) used m w):=by
 induction D with
 | zero=>intro k used tries m w h;omega
 | succ D ih=>
 intro k used tries m w hD hk htr hs;have Hih:=Lh ih;have HS:=Lh hs;have Hpat:=Lh hpat;obtain⟨Av,cv,hv,-,-⟩:=hs.own.form;rw[hs.rl.1]at hv;have r0:=hs.xr.cell;rw[hv]at r0;obtain⟨r,hr⟩:∃r,bR s.d (s.rest.drop k) used tries m=r:=⟨_,rfl⟩;rw[hr];by_cases hkL:k=s.rest.length
 . have hb:((k:Int)==(s.rest.length:Int))=true:=by simp[hkL]
   have hres:r=(true,tries):=by rw[<-hr,hkL,List.drop_length,bR]
   have Hres:=Lh hres;clear hpat hs hv hr hkL ih hres;go_enter Try.func80,Try.ntmps80;go_wp2_with fail;go_ret;rw[Hres.out];exact⟨rfl,SeStep.refl _ _,used,m,HS.out,λh=>by cases h⟩
 have hb:((k:Int)==(s.rest.length:Int))=false:=by simp;omega
 have hlt:k<s.rest.length:=by omega
 obtain⟨x,hx⟩:∃x,s.rest[k]=x:=⟨_,rfl⟩;have hres:r=goS s.d x (bR s.d (s.rest.drop (k+1))) used m (List.range (2*s.d.length)) tries:=by rw[<-hr,List.drop_eq_getElem_cons hlt,bR,hx]
 obtain⟨Ad,cd,hvd,-,hdn,-⟩:=Rd.cl_form hs.rd;have r1:=hs.xd.cell;rw[hvd]at r1;have hpx:=hpat x (by rw[<-hx];exact List.getElem_mem hlt);have Hx:=Lh hx;have Hres:=Lh hres;have Hvd:=Lh hvd;have Hv:=Lh hv;have h2N:IntKind.i64.wrap (2*(s.d.length:Int))=((2*s.d.length:Nat):Int):=by rw[IntWalk.i64_in _ (by omega)];omega
 have H2N:=Lh h2N;clear hpat hs hv hr hkL ih hres hx hvd hb;have hb:((k:Int)==(s.rest.length:Int))=false:=by simp;omega
 go_enter Try.func80,Try.ntmps80;go_wp2_with fail;go_loopw [18] (λi wr=>∃n:Nat,n<=2*s.d.length/\i=.int .i64 n/\∃t:Nat,t<=10001+(s.rest.length-(k+1))/\r=goS s.d x (bR s.d (s.rest.drop (k+1))) used m ((List.range (2*s.d.length)).drop n) t/\SeR s used t m wr/\SeStep s w wr) (λi _=>2*s.d.length-(intOf i).toNat)
 case atStart=>exact⟨0,Nat.zero_le _,rfl,tries,by omega,Hres.out,HS.out,SeStep.refl _ _⟩
 obtain⟨n,hn,rfl,t,ht,hgo,hsr,hst⟩:=hrel;have HSr:=Lh hsr;have HSt:=Lh hst;have Hgo:=Lh hgo;have u0:=hsr.xu.cell;obtain⟨h,hh⟩:∃h,n / 2=h:=⟨_,rfl⟩;have lk:=hsr.um.look h;have q2:(n:Int) / 2=(h:Int):=by omega
 obtain⟨tb,htb⟩:∃tb,decide (n % 2=1)=tb:=⟨_,rfl⟩;have Hh:=Lh hh;have Htb:=Lh htb;have hq1:(((n:Int) % 2)==1)=tb:=by
  rw[<-htb];by_cases e:n % 2=1
  . rw[decide_eq_true e];simp;omega
  rw[decide_eq_false e];simp;omega
 clear htb;clear hsr hst hgo r0 r1;by_cases hnN:n<2*s.d.length
 . have hlss:(n:Int)<2*(s.d.length:Int):=by omega
   cases hu:used h with
   | true=>
    rw[hu]at lk;have hgn:r=goS s.d x (bR s.d (s.rest.drop (k+1))) used m ((List.range (2*s.d.length)).drop (n+1)) t:=(by rw[Hgo.out,lN hnN,goS,Hh.out,if_pos hu]);have Hgn:=Lh hgn;clear hgn hu;go_wp2_with fail;go_roundw
    case rel=>exact⟨n+1,by omega,by go_num,t,ht,Hgn.out,HSr.out,HSt.out⟩
    case measure=>simp[intOf];omega
   | false=>
    rw[hu]at lk;have Hu:=Lh hu;have t0:=HSr.out.xt.cell;have t1:=HSr.out.xt.free;have hsr2:=HSr.out.tried (t+1);have ht63:t+1<=2000000:=(by omega);clear hu;go_upto_region 8 with fail
    have e2:((t:Int)+1)=((t+1:Nat):Int):=(by omega);rw[e2];generalize wr.setCell ⟨s.bt,0,none⟩ (.int .i64 ((t+1:Nat):Int))=w3 at hsr2 ⊢;have HSr2:=Lh hsr2.1;have HSt2:=Lh (HSt.out.trans hsr2.2);have u1:=hsr2.1.xt.cell;clear hsr2 t0 t1 u0 lk e2;by_cases hbig:10000<t+1
    . have hb2:(10000:Int)<((t+1:Nat):Int):=(by omega);have hres:r=(false,t+1):=(by rw[Hgo.out,lN hnN,goS,Hh.out,if_neg (by rw[Hu.out];decide),if_pos hbig]);have Hr:=Lh hres;clear hres;go_wp2_with fail;go_ret;rw[Hr.out];exact⟨rfl,HSt2.out,used,m,HSr2.out,λ_=>⟨rfl,rfl⟩⟩
    have hb2:¬((10000:Int)<((t+1:Nat):Int)):=(by omega);have hhN:h<s.d.length:=(by omega);obtain⟨y,hy⟩:∃y,s.d[h]=y:=⟨_,rfl⟩;have hgn:r=if (eL m x y tb).1=true then
     (
      if (bR s.d (s.rest.drop (k+1)) (λi=>if i=h then true else used i) (t+1) (eL m x y tb).2).1=true then bR s.d (s.rest.drop (k+1)) (λi=>if i=h then true else used i) (t+1) (eL m x y tb).2
      else goS s.d x (bR s.d (s.rest.drop (k+1))) used m ((List.range (2*s.d.length)).drop (n+1)) (bR s.d (s.rest.drop (k+1)) (λi=>if i=h then true else used i) (t+1) (eL m x y tb).2).2)
     else goS s.d x (bR s.d (s.rest.drop (k+1))) used m ((List.range (2*s.d.length)).drop (n+1)) (t+1):=by
     rw[Hgo.out,lN hnN,goS,Hh.out,if_neg (by rw[Hu.out];decide),if_neg hbig,List.getElem?_eq_getElem hhN,hy,Htb.out]
    have Hgn:=Lh hgn;have Hy:=Lh hy;obtain⟨vo,vals,hMt⟩:=HSr2.out.mt;obtain⟨z0,z1,-⟩:=hMt.box.cells;obtain⟨Ao,co,hvo,-,-⟩:=hMt.own.form;have hkl:(dS m).length=m.length:=(by unfold dS;simp);rw[hkl]at hvo;rw[hvo]at z1;have p0:=HSr2.out.xp.cell;clear hgn hy hMt hvo hkl;obtain⟨b1,hb1⟩:∃b,(eL m x y tb).1=b:=⟨_,rfl⟩;obtain⟨k1,hk1,-⟩:=aD4 m x y tb;have hl1:eL m x y tb=(b1,m++k1):=(by rw[<-hb1,<-hk1]);have Hl1:=Lh hl1;rw[hl1]at Hgn;obtain⟨g,c,n1,f1,zs1,A1,c1,g1,us1,D1,d1,hvr,hxk,k0,ka1,k2,k3,k4,hltx⟩:=HSr2.out.row hlt;rw[Hv.out]at hvr;injection hvr with hAv _ hcv
    subst hAv hcv;have hrd:=HSr2.out.rd;rw[Hvd.out]at hrd;obtain⟨ab,off,n2,f2,zs2,A2,c2,g2,us2,D2,d2,hAd,hyk,hab,l0,l1,l2,l3,l4,hr1,hr2⟩:=hrd.lt_at hhN;subst hAd;have hlty:LtV w3 s.B y (.agg #[.bool n2,.int .i64 f2,.slice A2 zs2.length c2,.int .i64 g2,.slice D2 us2.length d2]):=by
     rw[<-Hy.out,hyk];exact⟨A2,c2,D2,d2,rfl,hr1,hr2⟩
    rw[Hx.out]at hltx hxk;rw[Hy.out]at hyk;have Hltx:=Lh hltx;have Hlty:=Lh hlty;have hki:¬((s.rest.length:Int)<=(k:Int)):=(by omega);have hhi:¬((s.d.length:Int)<=(h:Int)):=(by omega);have hwh:IntKind.i64.wrap (h:Int)=(h:Int):=IntWalk.i64_in _ (by omega);have htm:(n:Int).tmod 2=(n:Int) % 2:=Int.tmod_eq_emod_of_nonneg (by omega);have habl:ab<w3.heap.size:=(by have:=HSr2.out.sz;omega);have hgl:g<w3.heap.size:=by
     have:=k0;unfold World.cell? at this;split at this
     . rename_i e;exact eA e
     cases this
    have hngf:¬MtF s.bm s.gm w3 g:=HSr2.out.nf g (.inr (.inr (.inr (.inr (.inr (.inr (.inr (by rw[Hv.out];rfl))))))));have hnab:¬MtF s.bm s.gm w3 ab:=λe=>by have:=(MtI.ok HSr2.out.hbm HSr2.out.hgm).ge m w3 ab HSr2.out.mt e;omega
    clear hl1 hb1 hk1 hltx hlty hrd hr1 hr2 hxk hyk;go_upto_region 11 with fail
    refine rg 14 (λ_ w'=>Upd w3 w' (MtF s.bm s.gm w3)) ?_;intro wd hwd hbd;refine⟨?_,λhS=>?_⟩
    . exact Upd.low (hwd ▸ hbd) _
    refine tk 0 (.pointer (some ⟨s.bm,0,none⟩)) hS ?_ λhS=>?_
    . intro w' L hn hw;have hnf:=HSr2.out.nf;have o0:=(HSr2.out.xp.upd hw (hnf _ (.inr (.inr (.inr (.inr (.inl rfl))))))).cell;have o1:=(HSr2.out.xr.upd hw (hnf _ (.inl rfl))).cell;have o2:=(HSr2.out.xd.upd hw (hnf _ (.inr (.inl rfl)))).cell;rw[Hv.out]at o1;rw[Hvd.out]at o2;simp[execOp,go_sem,o0]
    refine tk 1 (.slice (some ⟨g,0,none⟩) s.rest.length cv) hS ?_ λhS=>?_
    . intro w' L hn hw;have hnf:=HSr2.out.nf;have o1:=(HSr2.out.xr.upd hw (hnf _ (.inl rfl))).cell;have o2:=(HSr2.out.xd.upd hw (hnf _ (.inr (.inl rfl)))).cell;rw[Hv.out]at o1;rw[Hvd.out]at o2;simp[execOp,go_sem,o1]
    refine ta 2 (.int .i64 (k:Nat)) hS λhS=>?_
    refine tk 3 (.pointer (some ⟨g,k*5,none⟩)) hS ?_ λhS=>?_
    . intros;simp[execOp,go_sem,hlt,hki]
    refine tk 4 (.agg #[.bool n1,.int .i64 f1,.slice A1 zs1.length c1,.int .i64 g1,.slice D1 us1.length d1]) hS ?_ λhS=>?_
    . intro w' L hn hw;have hnf:=HSr2.out.nf;have o1:=(HSr2.out.xr.upd hw (hnf _ (.inl rfl))).cell;have o2:=(HSr2.out.xd.upd hw (hnf _ (.inr (.inl rfl)))).cell;rw[Hv.out]at o1;rw[Hvd.out]at o2;have hgb:=hw.block g hgl hngf;have x0:=(World.cell?_of_block (a:=⟨g,k*5,none⟩) hgb).trans k0;have x1:=(World.cell?_of_block (a:=⟨g,k*5+1,none⟩) hgb).trans ka1;have x2:=(World.cell?_of_block (a:=⟨g,k*5+2,none⟩) hgb).trans k2;have x3:=(World.cell?_of_block (a:=⟨g,k*5+3,none⟩) hgb).trans k3;have x4:=(World.cell?_of_block (a:=⟨g,k*5+4,none⟩) hgb).trans k4;simp[execOp,go_sem,x0,x1,x2,x3,x4]
    refine tk 5 (.slice (some ⟨ab,off,none⟩) s.d.length cd) hS ?_ λhS=>?_
    . intro w' L hn hw;have hnf:=HSr2.out.nf;have o1:=(HSr2.out.xr.upd hw (hnf _ (.inl rfl))).cell;have o2:=(HSr2.out.xd.upd hw (hnf _ (.inr (.inl rfl)))).cell;rw[Hv.out]at o1;rw[Hvd.out]at o2;simp[execOp,go_sem,o2]
    refine ta 6 (.int .i64 (n:Nat)) hS λhS=>?_
    refine tk 7 (.int .i64 (h:Nat)) hS ?_ λhS=>?_
    . intros;simp[execOp,go_sem,q2,hwh]
    refine tk 8 (.pointer (some ⟨ab,off+h*5,none⟩)) hS ?_ λhS=>?_
    . intros;simp[execOp,go_sem,hhN,hhi]
    refine tk 9 (.agg #[.bool n2,.int .i64 f2,.slice A2 zs2.length c2,.int .i64 g2,.slice D2 us2.length d2]) hS ?_ λhS=>?_
    . intro w' L hn hw;have hnf:=HSr2.out.nf;have o1:=(HSr2.out.xr.upd hw (hnf _ (.inl rfl))).cell;have o2:=(HSr2.out.xd.upd hw (hnf _ (.inr (.inl rfl)))).cell;rw[Hv.out]at o1;rw[Hvd.out]at o2;have hab':=hw.block ab habl hnab;have y0:=(World.cell?_of_block (a:=⟨ab,off+h*5,none⟩) hab').trans l0;have y1:=(World.cell?_of_block (a:=⟨ab,off+h*5+1,none⟩) hab').trans l1;have y2:=(World.cell?_of_block (a:=⟨ab,off+h*5+2,none⟩) hab').trans l2;have y3:=(World.cell?_of_block (a:=⟨ab,off+h*5+3,none⟩) hab').trans l3;have y4:=(World.cell?_of_block (a:=⟨ab,off+h*5+4,none⟩) hab').trans l4;simp[execOp,go_sem,y0,y1,y2,y3,y4]
    refine ta 10 (.int .i64 (n:Nat)) hS λhS=>?_
    refine tk 11 (.int .i64 ((n:Int) % 2)) hS ?_ λhS=>?_
    . intros;simp[execOp,go_sem,htm]
    refine tk 12 (.bool tb) hS ?_ λhS=>?_
    . intros;simp[execOp,go_sem,hq1]
    refine so 13 ?_;have hbd3:Below w3.heap.size w3 wd:=hwd ▸ hbd;have hsd:=HSr2.out.low hbd3;have hbB:=hbd3.mono HSr2.out.sz;have hc13:=vA s.B s.bm s.gm HSr2.out.hbm HSr2.out.hgm x y tb _ _ m wd hpx.1 hpx.2 (Hltx.out.low hbB) (Hlty.out.low hbB) hsd.1.sz hsd.1.mt;rw[Hl1.out]at hc13;refine aG ?_ hc13 ?_
    . simp[execOp,resolve,invoke,go_sem]
    rintro e w6 ⟨rfl,hst6⟩;refine⟨_,rfl,?_⟩;refine gS ?_ λhS=>?_
    . exact(Upd.low hbd3 _).trans hst6.upd (λi e=>.inl (((MtI.ok HSr2.out.hbm HSr2.out.hgm).low m w3 wd HSr2.out.mt hbd3).2 i e))
    refine dn ?_;have hsr6:=hsd.1.turn hst6;have HSr6:=Lh hsr6.1;have HSt6:=Lh ((HSt2.out.trans hsd.2).trans hsr6.2);have hq2:=q2;clear hsr6 hst6 hsd hbd3 hbB hc13 hS hwd hbd htm hq1 k0 ka1 k2 k3 k4 l0 l1 l2 l3 l4 z0 z1 p0 u1;cases b1 with
    | false=>
     have hgn:=Hgn.out;simp only[Bool.false_eq_true,if_false]at hgn;have Hgn:=Lh hgn;clear hgn;have hbk:=gM s.B s.bm s.gm HSr6.out.hbm HSr6.out.hgm m k1 w6 HSr6.out.mt;have Hbk:=Lh hbk;have p6:=HSr6.out.xp.cell;clear hbk;go_wp2_with (
      go_at_call 81
      refine Hbk.out.mono ?_;rintro e w7 ⟨rfl,hst7⟩;have hsr7:=HSr6.out.turn hst7;have HSr7:=Lh hsr7.1;have HSt7:=Lh (HSt6.out.trans hsr7.2);clear hst7 hsr7)
     go_roundw
     case rel=>exact⟨n+1,by omega,by go_num,t+1,by omega,Hgn.out,HSr7.out,HSt7.out⟩
     case measure=>simp[intOf];omega
    | true=>
     have hgn:=Hgn.out;simp only[if_true]at hgn;obtain⟨⟨b2,t2⟩,hq⟩:∃q,bR s.d (s.rest.drop (k+1)) (λi=>if i=h then true else used i) (t+1) (m++k1)=q:=⟨_,rfl⟩;rw[hq]at hgn;have ht2:t2<=10001+(s.rest.length-(k+1)):=by
      have:=rG s.d (s.rest.drop (k+1)) (λi=>if i=h then true else used i) (t+1) (m++k1) (by omega);rw[hq,List.length_drop]at this;exact this
     have Hg2:=Lh hgn;have Hq:=Lh hq;clear hgn hq;have p6:=HSr6.out.xp.cell;have p7:=HSr6.out.xu.cell;obtain⟨U6,hU6,hU6b⟩:=HSr6.out.um;have HU6:=Lh hU6;clear hU6;go_upto_region 13 with(
      at_mapUpdate
      refine cZ rfl (.tmp 48) (.tmp 50) _ rfl fT Try.underlying125 rfl (h:Int) rfl (.bool true) rfl (by exact HU6.out) ?_;intro w7 hm7 hu7;have Hm7:=Lh hm7;have Hu7:=Lh hu7;clear hm7 hu7)
     have hsr7:=HSr6.out.use Hu7.out (kU hU6b h true Hm7.out);have HSr7:=Lh hsr7.1;have HSt7:=Lh (HSt6.out.trans hsr7.2);clear hsr7 hU6b p6 p7 Hm7 Hu7;simp only[Act.put];have hck:=Hih.out (k+1) (λi=>if i=h then true else used i) (t+1) (m++k1) w7 (by omega) (by omega) (by omega) HSr7.out;rw[Hq.out,show ((k+1:Nat):Int)=(k:Int)+1 from by omega]at hck;have Hck:=Lh hck;have f7:=HSr7.out.xs.cell;unfold SeC.func at f7;clear hck;cases b2 with
     | true=>
      have hg3:=Hg2.out;simp only[if_true]at hg3;have Hg3:=Lh hg3;clear hg3;go_wp2_with (
       go_at_call 80
       refine Hck.out.mono ?_;rintro e w8 ⟨rfl,hst8,used8,m8,hsr8,-⟩;have HSr8:=Lh hsr8;have HSt8:=Lh hst8;clear hsr8 hst8)
      go_ret;rw[Hg3.out];exact⟨rfl,HSt7.out.trans HSt8.out,used8,m8,HSr8.out,λe=>by cases e⟩
     | false=>
      have hg3:=Hg2.out;simp only[Bool.false_eq_true,if_false]at hg3;have Hg3:=Lh hg3;clear hg3;go_upto_region 15 with(
       go_at_call 80
       refine Hck.out.mono ?_;rintro e w8 ⟨rfl,hst8,used8,m8,hsr8,hbk8⟩;obtain⟨rfl,rfl⟩:=hbk8 rfl;have HSr8:=Lh hsr8;have HSt8:=Lh (HSt7.out.trans hst8);clear hsr8 hst8 hbk8)
      have p8:=HSr8.out.xu.cell;obtain⟨U8,hU8,hU8b⟩:=HSr8.out.um;have HU8:=Lh hU8;clear hU8 f7;go_upto_region 16 with(
       at_mapUpdate
       refine cZ rfl (.tmp 55) (.tmp 57) _ rfl fT Try.underlying125 rfl (h:Int) rfl (.bool false) rfl (by exact HU8.out) ?_;intro w9 hm9 hu9;have Hm9:=Lh hm9;have Hu9:=Lh hu9;clear hm9 hu9)
      have hsr9:=HSr8.out.use Hu9.out (kU hU8b h false Hm9.out);have hue:(λi=>if i=h then false else(if i=h then true else used i))=used:=by
       funext i
       by_cases hi:i=h
       . simp[hi,Hu.out]
       simp[hi]
      rw[hue]at hsr9;have HSr9:=Lh hsr9.1;have HSt9:=Lh (HSt8.out.trans hsr9.2);clear hsr9 hue hU8b p8 Hm9 Hu9;simp only[Act.put];have hbk:=gM s.B s.bm s.gm HSr9.out.hbm HSr9.out.hgm m k1 w9 HSr9.out.mt;have Hbk:=Lh hbk;have p9:=HSr9.out.xp.cell;clear hbk;go_wp2_with (
       go_at_call 81
       refine Hbk.out.mono ?_;rintro e w10 ⟨rfl,hst10⟩;have hsr10:=HSr9.out.turn hst10;have HSr10:=Lh hsr10.1;have HSt10:=Lh (HSt9.out.trans hsr10.2);clear hst10 hsr10)
      go_roundw
      case rel=>exact⟨n+1,by omega,by go_num,t2,ht2,Hg3.out,HSr10.out,HSt10.out⟩
      case measure=>simp[intOf];omega
 have hlss:¬((n:Int)<2*(s.d.length:Int)):=by omega
 have hres:r=(false,t):=by rw[Hgo.out,show (List.range (2*s.d.length)).drop n=[]from List.drop_eq_nil_iff.2 (by rw[List.length_range];omega),goS]
 have Hr:=Lh hres;clear hres;go_wp2_with fail;go_ret;rw[Hr.out];exact⟨rfl,HSt.out,used,m,HSr.out,λ_=>⟨rfl,rfl⟩⟩
end Go.Proofs.Ytiaoabfndnidiaa