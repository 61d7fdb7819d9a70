/-
 Part 1 of the proof over the checker:walks and plain laws.
-/
import Derived.WalkKit
import Derived.WalkSpells
import Derived.WalkLawsBesides
import Derived.Lib.Hide
import Derived.Deep.QuietTactic
import Derived.BigQuiet
import Derived.Maps.AppendAt
import Derived.Carry
import Derived.Test.YtiaoabfndnidiaaProg
import Derived.Deep.Cut
import Derived.Deep.CutRange
import Derived.Deep.CutBlock
import Derived.Deep.RegionWith
import Derived.Maps.Own
import Derived.Orders
set_option maxRecDepth 100000
set_option maxHeartbeats 8000000
set_option linter.unusedSimpArgs false
set_option linter.unusedVariables false
namespace Go.Proofs.Ytiaoabfndnidiaa
open Go.RowKit
theorem Lh {p:Prop} (h:p):Hid p:=Lib.hid h
inductive Tr where
 | leaf (v:Value)
 | sl (size:Nat) (rows:List (List Tr))
inductive Rd (w:World)(B:Nat):Tr->Value->Prop
 | leaf (v:Value):Rd w B (.leaf v) v
 | none_ (size:Nat):Rd w B (.sl size []) (.slice none 0 0)
 | empty (size:Nat) (a:Addr):Rd w B (.sl size []) (.slice (some a) 0 0)
 | row (size b off c:Nat) (rows:List (List Tr)) (us:Nat->Nat->Value) (hl:∀r∈rows,r.length=size) (hc:rows.length<=c) (hn:rows.length<=140737488351232) (hm:c<=maxLen) (hb:b<B)
  (hcell:∀k j,k<rows.length->j<size->w.cell? ⟨b,off+k*size+j,none⟩=some (us k j))
  (hr:∀k (h:k<rows.length) j (h':j<rows[k].length),Rd w B rows[k][j] (us k j)):
  Rd w B (.sl size rows) (.slice (some ⟨b,off,none⟩) rows.length c)
theorem Rd.keep {w w':World} {B:Nat} {t:Tr} {v:Value} (h:Rd w B t v)(hk:∀p:Addr,p.block<B->w'.cell? p=w.cell? p):Rd w' B t v:=by
 induction h with
 | leaf v=>exact .leaf v
 | none_ size=>exact .none_ size
 | empty size a=>exact .empty size a
 | row size b off c rows us hl hc hn hm hb hcell hr ih=>exact .row size b off c rows us hl hc hn hm hb (λk j hk' hj=>(hk _ hb).trans (hcell k j hk' hj)) ih
theorem Rd.more {w:World} {B B':Nat} {t:Tr} {v:Value} (h:Rd w B t v)(hB:B<=B'):Rd w B' t v:=by
 induction h with
 | leaf v=>exact .leaf v
 | none_ size=>exact .none_ size
 | empty size a=>exact .empty size a
 | row size b off c rows us hl hc hn hm hb hcell hr ih=>exact .row size b off c rows us hl hc hn hm (by omega) hcell ih
theorem Rd.low {w w':World} {B B':Nat} {t:Tr} {v:Value} (h:Rd w B t v)(hb:Below B' w w')(hB:B<=B'):Rd w' B t v:=
 h.keep λp hp=>hb.cell (by omega)
theorem Rd.leaf_inv {w:World} {B:Nat} {u v:Value} (h:Rd w B (.leaf u) v):v=u:=by cases h;rfl
theorem Rd.sl_inv {w:World} {B size:Nat} {rows:List (List Tr)} {v:Value} (h:Rd w B (.sl size rows) v):
 (rows=[]/\∃A,v=.slice A 0 0)\/∃(b off c:Nat) (us:Nat->Nat->Value),v=.slice (some ⟨b,off,none⟩) rows.length c/\rows.length<=c/\rows.length<=140737488351232/\c<=maxLen/\b<B/\
  (∀k j,k<rows.length->j<size->w.cell? ⟨b,off+k*size+j,none⟩=some (us k j))/\(∀k (h:k<rows.length) j (h':j<rows[k].length),Rd w B rows[k][j] (us k j)):=by
 cases h with
 | none_=>exact .inl ⟨rfl,_,rfl⟩
 | empty _ a=>exact .inl ⟨rfl,_,rfl⟩
 | row _ b off c _ us hl hc hn hm hb hcell hr=>exact .inr ⟨b,off,c,us,rfl,hc,hn,hm,hb,hcell,hr⟩
theorem aD (w:World)(o:Obj):Below w.heap.size w (w.alloc o):=(Below.refl _ _).alloc (Nat.le_refl _) _
theorem sV {B:Nat} {a w:World} (h:Below B a w)(n:Nat):Below B a (w.drewN n):=⟨h.os,h.tape,h.output,h.size,h.block⟩
structure Upd (w w':World)(F:Nat->Prop):Prop where
 os:w'.os=w.os
 tape:w'.tape=w.tape
 output:w'.output=w.output
 size:w.heap.size<=w'.heap.size
 block:∀k,k<w.heap.size->¬F k->w'.heap[k]? =w.heap[k]?
theorem Upd.refl (w:World)(F:Nat->Prop):Upd w w F:=⟨rfl,rfl,rfl,Nat.le_refl _,λ_ _ _=>rfl⟩
theorem Upd.low {w w':World} (h:Below w.heap.size w w')(F:Nat->Prop):Upd w w' F:=⟨h.os,h.tape,h.output,h.size,λk hk _=>h.block k hk⟩
theorem Upd.toLow {w w':World} {F:Nat->Prop} (h:Upd w w' F) {B:Nat} (hB:B<=w.heap.size)(hF:∀k,F k->B<=k):Below B w w':=
 ⟨h.os,h.tape,h.output,h.size,λk hk=>h.block k (by omega) (λhf=>by have:=hF k hf;omega)⟩
theorem Upd.grown {w w':World} {row:Option Nat} (h:w.grownBy w' row):Upd w w' (λk=>row=some k):=⟨h.os,h.tape,h.output,h.size,λk hk hf=>h.block k hk (λe=>hf e.symm)⟩
theorem Upd.trans {a b c:World} {F G:Nat->Prop} (h:Upd a b F)(k:Upd b c G)(hG:∀i,G i->F i\/a.heap.size<=i):Upd a c F:=
 ⟨
  k.os.trans h.os,k.tape.trans h.tape,k.output.trans h.output,Nat.le_trans h.size k.size,λi hi hf=>(k.block i (Nat.lt_of_lt_of_le hi h.size) (λhg=>by
  rcases hG i hg with h' | h'
  . exact hf h'
  omega)).trans (h.block i hi hf)⟩
theorem Upd.more {a b:World} {F G:Nat->Prop} (h:Upd a b F)(hF:∀i,F i->G i\/a.heap.size<=i):Upd a b G:=
 ⟨h.os,h.tape,h.output,h.size,λi hi hg=>h.block i hi (λhf=>by rcases hF i hf with h' | h';exact hg h';omega)⟩
theorem Upd.drewN {a b:World} {F:Nat->Prop} (h:Upd a b F)(n:Nat):Upd a (b.drewN n) F:=⟨h.os,h.tape,h.output,h.size,h.block⟩
theorem Upd.alloc {a b:World} {F:Nat->Prop} (h:Upd a b F)(o:Obj):Upd a (b.alloc o) F:=
 h.trans (Upd.low (aD b o) (λ_=>False)) (by simp)
theorem Upd.setCell {a b:World} {F:Nat->Prop} (h:Upd a b F)(p:Addr)(u:Value)(hp:F p.block\/a.heap.size<=p.block):Upd a (b.setCell p u) F:=
 ⟨
  h.os,h.tape,h.output,by simpa [World.setCell]using h.size,λi hi hf=>(Below.heap_setCell _ _ _ _ (λe=>by
  subst e;rcases hp with h' | h'
  . exact hf h'
  omega)).trans (h.block i hi hf)⟩
theorem Upd.keepRd {w w':World} {F:Nat->Prop} {B:Nat} {t:Tr} {v:Value} (h:Upd w w' F)(hr:Rd w B t v)(hB:B<=w.heap.size)(hF:∀k,F k->B<=k):Rd w' B t v:=
 hr.low (h.toLow hB hF) (Nat.le_refl _)
theorem cQ (w:World)(o:Obj):(w.alloc o).heap.size=w.heap.size+1:=by simp
theorem cY (w:World)(o:Obj)(k:Nat):(w.alloc o).heap[k]? =if k=w.heap.size then some o else w.heap[k]? :=by
 show (w.heap.push o)[k]? =_
 rw[Array.getElem?_push]
theorem Rd.sl_form {w:World} {B size:Nat} {rows:List (List Tr)} {v:Value} (h:Rd w B (.sl size rows) v):∃A c,v=.slice A rows.length c/\rows.length<=c/\rows.length<=140737488351232/\c<=maxLen:=by
 rcases h.sl_inv with⟨rfl,A,rfl⟩ | ⟨b,off,c,us,rfl,h1,h2,h3,_⟩
 . exact⟨A,0,rfl,Nat.le_refl _,Nat.zero_le _,Nat.zero_le _⟩
 exact⟨_,c,rfl,h1,h2,h3⟩
theorem Rd.at_ {w:World} {B k n c size:Nat} {A:Option Addr} {rows:List (List Tr)} (h:Rd w B (.sl size rows) (.slice A n c))(hk:k<rows.length):
 ∃(ab off:Nat) (us:Nat->Value),A=some ⟨ab,off,none⟩/\ab<B/\(∀j,j<size->w.cell? ⟨ab,off+k*size+j,none⟩=some (us j))/\
  (∀j (h':j<rows[k].length),Rd w B rows[k][j] (us j)):=by
 rcases h.sl_inv with⟨rfl,_⟩ | ⟨ab,off,c',us,hv,_,_,_,hb,hc,hr⟩
 . simp at hk
 injection hv with hA _ _
 exact⟨ab,off,us k,hA,hb,λj hj=>hc k j hk hj,λj hj=>hr k hk j hj⟩
theorem Rd.leaf_at {w:World} {B k n c:Nat} {A:Option Addr} {α:Type} {f:α->Value} {xs:List α} (h:Rd w B (.sl 1 (xs.map λx=>[.leaf (f x)])) (.slice A n c))(hk:k<xs.length):
 ∃ab off,A=some ⟨ab,off,none⟩/\ab<B/\w.cell? ⟨ab,off+k,none⟩=some (f xs[k]):=by
 obtain⟨ab,off,us,hA,hb,hc,hr⟩:=h.at_ (k:=k) (by simpa using hk);have h0:=hr 0 (by simp);simp only[List.getElem_map,List.getElem_cons_zero]at h0;have e0:=h0.leaf_inv;have:=hc 0 (by omega);refine⟨ab,off,hA,hb,?_⟩;rw[<-e0,<-this];simp
inductive Tm where
 | mk (f:Int) (args:List Tm)
def Tm.fn:Tm->Int | .mk f _=>f
def Tm.args:Tm->List Tm | .mk _ xs=>xs
mutual
def aK:Tm->Nat
 | .mk _ xs=>aI xs+1
def aI:List Tm->Nat
 | []=>0
 | x::xs=>aK x+aI xs
end
mutual
def dF:Tm->Nat
 | .mk _ xs=>bO xs+1
def bO:List Tm->Nat
 | []=>0
 | x::xs=>max (dF x) (bO xs)
end
mutual
def bB:Tm->List Tr
 | .mk f xs=>[.leaf (.int .i64 f),.sl 2 (aH xs)]
def aH:List Tm->List (List Tr)
 | []=>[]
 | e::es=>bB e::aH es
end
theorem bS (xs:List Tm):aH xs=xs.map bB:=by
 induction xs with
 | nil=>rfl
 | cons x xs ih=>simp[aH,ih]
theorem bG (xs:List Tm):(aH xs).length=xs.length:=by simp[bS]
theorem aC3 (x:Tm):(bB x).length=2:=by cases x;rfl
theorem Rd.tm_form {w:World} {B:Nat} {xs:List Tm} {v:Value} (h:Rd w B (.sl 2 (aH xs)) v):∃A c,v=.slice A xs.length c/\xs.length<=c/\xs.length<=140737488351232/\c<=9223372036854775807:=by
 obtain⟨A,c,h1,h2,h3,h4⟩:=h.sl_form;rw[bG]at h1 h2 h3;unfold maxLen at h4;exact⟨A,c,h1,h2,h3,h4⟩
theorem Rd.row_form {w:World} {B size:Nat} {α:Type} {e:α->List Tr} {xs:List α} {v:Value} (h:Rd w B (.sl size (xs.map e)) v):∃A c,v=.slice A xs.length c/\xs.length<=c/\xs.length<=140737488351232/\c<=9223372036854775807:=by
 obtain⟨A,c,h1,h2,h3,h4⟩:=h.sl_form;rw[List.length_map]at h1 h2 h3;unfold maxLen at h4;exact⟨A,c,h1,h2,h3,h4⟩
theorem Rd.tm_at {w:World} {B k n c:Nat} {A:Option Addr} {xs:List Tm} (h:Rd w B (.sl 2 (aH xs)) (.slice A n c))(hk:k<xs.length):
 ∃ab off f ys A2 c2,A=some ⟨ab,off,none⟩/\xs[k]=.mk f ys/\ab<B/\w.cell? ⟨ab,off+k*2,none⟩=some (.int .i64 f)/\w.cell? ⟨ab,off+k*2+1,none⟩=some (.slice A2 ys.length c2)/\Rd w B (.sl 2 (aH ys)) (.slice A2 ys.length c2):=by
 have hl:=bG xs;obtain⟨ab,off,us,hA,hb,hc,hr⟩:=h.at_ (k:=k) (by omega);have hrow:(aH xs)[k]'(by omega)=bB xs[k]:=by simp[bS]
 rcases hxk:xs[k]with⟨f,ys⟩
 rw[hxk]at hrow;have h0:=hr 0 (by rw[hrow];simp[bB]);have h1:=hr 1 (by rw[hrow];simp[bB]);simp only[hrow,bB,List.getElem_cons_zero,List.getElem_cons_succ]at h0 h1;have e0:=h0.leaf_inv;obtain⟨A2,c2,e1,_⟩:=h1.tm_form;exact⟨ab,off,f,ys,A2,c2,hA,rfl,hb,by rw[<-e0];exact hc 0 (by omega),by rw[<-e1];exact hc 1 (by omega),by rw[<-e1];exact h1⟩
structure Lt where
 neg:Bool
 l:Tm
 r:Tm
abbrev Cl:=List Lt
def aQ (x:Lt):List Tr:=.leaf (.bool x.neg)::(bB x.l++bB x.r)
theorem nT (x:Lt):(aQ x).length=5:=by rcases x with⟨_,⟨_,_⟩,⟨_,_⟩⟩;rfl
def aT (c:Cl):Tr:=.sl 5 (c.map aQ)
theorem Rd.cl_form {w:World} {B:Nat} {xs:Cl} {v:Value} (h:Rd w B (aT xs) v):∃A c,v=.slice A xs.length c/\xs.length<=c/\xs.length<=140737488351232/\c<=9223372036854775807:=by
 obtain⟨A,c,h1,h2,h3,h4⟩:=Rd.sl_form h;rw[List.length_map]at h1 h2 h3;unfold maxLen at h4;exact⟨A,c,h1,h2,h3,h4⟩
theorem Rd.lt_at {w:World} {B k n c:Nat} {A:Option Addr} {xs:Cl} (h:Rd w B (aT xs) (.slice A n c))(hk:k<xs.length):
 ∃ab off b f1 ys1 A1 c1 f2 ys2 A2 c2,A=some ⟨ab,off,none⟩/\xs[k]=⟨b,.mk f1 ys1,.mk f2 ys2⟩/\ab<B/\w.cell? ⟨ab,off+k*5,none⟩=some (.bool b)/\w.cell? ⟨ab,off+k*5+1,none⟩=some (.int .i64 f1)/\
  w.cell? ⟨ab,off+k*5+2,none⟩=some (.slice A1 ys1.length c1)/\w.cell? ⟨ab,off+k*5+3,none⟩=some (.int .i64 f2)/\w.cell? ⟨ab,off+k*5+4,none⟩=some (.slice A2 ys2.length c2)/\
  Rd w B (.sl 2 (aH ys1)) (.slice A1 ys1.length c1)/\Rd w B (.sl 2 (aH ys2)) (.slice A2 ys2.length c2):=by
 unfold aT at h;obtain⟨ab,off,us,hA,hb,hc,hr⟩:=h.at_ (k:=k) (by simpa using hk);have hrow:(xs.map aQ)[k]'(by simpa using hk)=aQ xs[k]:=by simp
 rcases hxk:xs[k]with⟨b,⟨f1,ys1⟩,⟨f2,ys2⟩⟩
 rw[hxk]at hrow;have h0:=hr 0 (by rw[hrow];simp[aQ,bB]);have h1:=hr 1 (by rw[hrow];simp[aQ,bB]);have h2:=hr 2 (by rw[hrow];simp[aQ,bB]);have h3:=hr 3 (by rw[hrow];simp[aQ,bB]);have h4:=hr 4 (by rw[hrow];simp[aQ,bB]);simp only[hrow,aQ,bB,List.cons_append,List.nil_append,List.getElem_cons_zero,List.getElem_cons_succ]at h0 h1 h2 h3 h4;have e0:=h0.leaf_inv;have e1:=h1.leaf_inv;have e3:=h3.leaf_inv;obtain⟨A1,c1,e2,_⟩:=h2.tm_form;obtain⟨A2,c2,e4,_⟩:=h4.tm_form;exact⟨ab,off,b,f1,ys1,A1,c1,f2,ys2,A2,c2,hA,rfl,hb,by rw[<-e0];exact hc 0 (by omega),by rw[<-e1];exact hc 1 (by omega),by rw[<-e2];exact hc 2 (by omega),by rw[<-e3];exact hc 3 (by omega),by rw[<-e4];exact hc 4 (by omega),by rw[<-e2];exact h2,by rw[<-e4];exact h4⟩
def eY (cs:List Cl):Tr:=.sl 1 (cs.map λc=>[aT c])
theorem Rd.cl_at {w:World} {B k n c:Nat} {A:Option Addr} {cs:List Cl} (h:Rd w B (eY cs) (.slice A n c))(hk:k<cs.length):
 ∃ab off A2 c2,A=some ⟨ab,off,none⟩/\ab<B/\w.cell? ⟨ab,off+k,none⟩=some (.slice A2 cs[k].length c2)/\Rd w B (aT cs[k]) (.slice A2 cs[k].length c2):=by
 unfold eY at h;obtain⟨ab,off,us,hA,hb,hc,hr⟩:=h.at_ (k:=k) (by simpa using hk);have h0:=hr 0 (by simp);simp only[List.getElem_map,List.getElem_cons_zero]at h0;have:=hc 0 (by omega);obtain⟨A2,c2,e2,_⟩:=Rd.cl_form h0;exact⟨ab,off,A2,c2,hA,hb,by rw[<-e2,<-this];simp,by rw[<-e2];exact h0⟩
def bM (xs:List Int):Tr:=.sl 1 (xs.map λn=>[.leaf (.int .i64 n)])
def wI (xs:List Bool):Tr:=.sl 1 (xs.map λb=>[.leaf (.bool b)])
structure Sp where
 rule:Int
 parents:List Int
 lits:List Int
 right:List Bool
 pos:List Int
 clause:Cl
def eZ (s:Sp):List Tr:=[.leaf (.int .i64 s.rule),bM s.parents,bM s.lits,wI s.right,bM s.pos,aT s.clause]
def gO (l:List Sp):Tr:=.sl 6 (l.map eZ)
structure RdS (w:World)(B:Nat)(s:Sp)(v1 v2 v3 v4 v5:Value):Prop where
 parents:Rd w B (bM s.parents) v1
 lits:Rd w B (bM s.lits) v2
 right:Rd w B (wI s.right) v3
 pos:Rd w B (bM s.pos) v4
 clause:Rd w B (aT s.clause) v5
theorem RdS.low {w w':World} {B B':Nat} {s:Sp} {v1 v2 v3 v4 v5:Value} (h:RdS w B s v1 v2 v3 v4 v5)(hb:Below B' w w')(hB:B<=B'):RdS w' B s v1 v2 v3 v4 v5:=
 ⟨h.parents.low hb hB,h.lits.low hb hB,h.right.low hb hB,h.pos.low hb hB,h.clause.low hb hB⟩
theorem Rd.sp_at {w:World} {B k n c:Nat} {A:Option Addr} {l:List Sp} (h:Rd w B (gO l) (.slice A n c))(hk:k<l.length):
 ∃ab off v1 v2 v3 v4 v5,A=some ⟨ab,off,none⟩/\ab<B/\w.cell? ⟨ab,off+k*6,none⟩=some (.int .i64 l[k].rule)/\w.cell? ⟨ab,off+k*6+1,none⟩=some v1/\w.cell? ⟨ab,off+k*6+2,none⟩=some v2/\
  w.cell? ⟨ab,off+k*6+3,none⟩=some v3/\w.cell? ⟨ab,off+k*6+4,none⟩=some v4/\w.cell? ⟨ab,off+k*6+5,none⟩=some v5/\RdS w B l[k] v1 v2 v3 v4 v5:=by
 unfold gO at h;obtain⟨ab,off,us,hA,hb,hc,hr⟩:=h.at_ (k:=k) (by simpa using hk);have hrow:(l.map eZ)[k]'(by simpa using hk)=eZ l[k]:=by simp
 have h0:=hr 0 (by rw[hrow];simp[eZ]);have h1:=hr 1 (by rw[hrow];simp[eZ]);have h2:=hr 2 (by rw[hrow];simp[eZ]);have h3:=hr 3 (by rw[hrow];simp[eZ]);have h4:=hr 4 (by rw[hrow];simp[eZ]);have h5:=hr 5 (by rw[hrow];simp[eZ]);simp only[hrow,eZ,List.getElem_cons_zero,List.getElem_cons_succ]at h0 h1 h2 h3 h4 h5;have e0:=h0.leaf_inv;exact⟨ab,off,us 1,us 2,us 3,us 4,us 5,hA,hb,by rw[<-e0];exact hc 0 (by omega),hc 1 (by omega),hc 2 (by omega),hc 3 (by omega),hc 4 (by omega),hc 5 (by omega),⟨h1,h2,h3,h4,h5⟩⟩
/-! ## Sizes -/
theorem tW (t:Tm):0<aK t:=by cases t;simp[aK]
theorem aZ {xs:List Tm} {k:Nat} (h:k<xs.length):aK xs[k]<=aI xs:=by
 induction xs generalizing k with
 | nil=>simp at h
 | cons x xs ih=>
  cases k with
  | zero=>simp[aI]
  | succ k=>
   have:=ih (k:=k) (by simpa using h);simp only[aI,List.getElem_cons_succ];omega
theorem iF (xs ys:List Tm):aI (xs++ys)=aI xs+aI ys:=by
 induction xs with
 | nil=>simp[aI]
 | cons x xs ih=>simp[aI,ih];omega
theorem iB {xs:List Tm} {k:Nat} (h:k<xs.length):aI (xs.take (k+1))=aI (xs.take k)+aK xs[k]:=by
 rw[List.take_succ_eq_append_getElem h,iF];simp[aI]
theorem fB (xs:List Tm)(k:Nat):aI (xs.take k)<=aI xs:=by
 conv=>rhs;rw[<-List.take_append_drop k xs,iF]
 omega
theorem jV (xs ys:List Tm):bO (xs++ys)=max (bO xs) (bO ys):=by
 induction xs with
 | nil=>simp[bO]
 | cons x xs ih=>simp only[List.cons_append,bO,ih];omega
theorem uU {xs:List Tm} {k:Nat} (h:k<xs.length):bO (xs.take (k+1))=max (bO (xs.take k)) (dF xs[k]):=by
 rw[List.take_succ_eq_append_getElem h,jV];simp[bO]
theorem bL (xs:List Tm):xs.length<=aI xs:=by
 induction xs with
 | nil=>simp
 | cons x xs ih=>simp only[List.length_cons,aI];have:=tW x;omega
mutual
theorem aC0:∀t:Tm,dF t<=aK t
 | .mk _ xs=>by simp only[dF,aK];have:=fI xs;omega
theorem fI:∀xs:List Tm,bO xs<=aI xs
 | []=>by simp[bO,aI]
 | x::xs=>by simp only[bO,aI];have:=aC0 x;have:=fI xs;omega
end
theorem eA {w:World} {b:Nat} {o:Obj} (h:w.heap[b]? =some o):b<w.heap.size:=(Array.getElem?_eq_some_iff.1 h).1
theorem pT (w:World)(o1:Obj):(w.alloc o1).heap[w.heap.size]? =some o1/\Below w.heap.size w (w.alloc o1)/\(w.alloc o1).heap.size=w.heap.size+1:=by
 refine⟨?_,aD w o1,by simp⟩;rw[cY,if_pos rfl]
theorem aO (w:World)(o1 o2:Obj):((w.alloc o1).alloc o2).heap[w.heap.size]? =some o1/\((w.alloc o1).alloc o2).heap[w.heap.size+1]? =some o2/\Below w.heap.size w ((w.alloc o1).alloc o2)/\((w.alloc o1).alloc o2).heap.size=w.heap.size+2:=by
 refine⟨?_,?_,(aD w o1).trans ((aD _ o2).mono (by simp)),by simp⟩
 . rw[cY,if_neg (by simp),cY,if_pos rfl]
 rw[cY,if_pos (by simp)]
theorem fW (w:World)(o1 o2 o3:Obj):(((w.alloc o1).alloc o2).alloc o3).heap[w.heap.size]? =some o1/\(((w.alloc o1).alloc o2).alloc o3).heap[w.heap.size+1]? =some o2/\(((w.alloc o1).alloc o2).alloc o3).heap[w.heap.size+1+1]? =some o3/\
 Below w.heap.size w (((w.alloc o1).alloc o2).alloc o3)/\(((w.alloc o1).alloc o2).alloc o3).heap.size=w.heap.size+3:=by
 obtain⟨h1,h2,h3,h4⟩:=aO w o1 o2;refine⟨?_,?_,?_,h3.trans ((aD _ o3).mono (by rw[h4];omega)),by rw[cQ,h4]⟩
 . rw[cY,if_neg (by rw[h4];omega),h1]
 . rw[cY,if_neg (by rw[h4];omega),h2]
 rw[cY,if_pos (by rw[h4])]
def aK5 (n d:Nat)(w:World)(e:Ending)(w':World):Prop:=e=.returned (.tuple #[.int .i64 n,.int .i64 d])/\Below w.heap.size w w'
theorem xB (d:Nat):∀(f:Int) (xs:List Tm) (v2:Value) (B:Nat) (w:World),aI xs<d->aI xs<=10000000000->Rd w B (.sl 2 (aH xs)) v2->B<=w.heap.size->
 Calls Try.prog 59 #[.agg #[.int .i64 f,v2]] w (aK5 (aI xs+1) (bO xs+1) w):=by
 induction d with
 | zero=>intro f xs v2 B w h;omega
 | succ d ih=>
 intro f xs v2 B w hd hz hr hB;obtain⟨A,c,rfl,hc,hn,hm⟩:=hr.tm_form;have H3:=Lh hr;have Hih:=Lh ih;clear hr ih;go_enter Try.func59,Try.ntmps59;go_wp2_with fail;go_loopw [2,3,11] (λn m i wr=>∃k:Nat,k<=xs.length/\i=.int .i64 k/\n=.int .i64 ((aI (xs.take k)+1:Nat):Int)/\m=.int .i64 (bO (xs.take k):Nat)/\Below w.heap.size w wr/\wr.heap[w.heap.size]? =some (Obj.cells #[Value.int .i64 f,Value.slice A xs.length c] 87 (0,0))) (λ_ _ i _=>xs.length-(intOf i).toNat)
 case atStart=>exact⟨0,Nat.zero_le _,rfl,rfl,rfl,aD w _,heap_alloc_new w _⟩
 obtain⟨k,hk,rfl,rfl,rfl,hbel,hown⟩:=hrel;have hsz:=eA hown;have hown2:=λo=>cell_of_row wr w.heap.size o _ _ _ hown
 have Hown:=Lh hown;have Hbel:=Lh hbel;clear hown hbel;by_cases hlt:k<xs.length
 . obtain⟨ab,off,f',ys,A2,c2,rfl,hxk,hb,c0,c1,hrd⟩:=(H3.out.low Hbel.out hB).tm_at hlt;have h1:=aZ hlt;have h2:=iB hlt;have h3:=fB xs (k+1);have h4:=uU hlt;have h5:=fI ys;have h6:=fI (xs.take k);rw[hxk]at h1 h2 h4;simp only[aK,dF]at h1 h2 h4;have Hr:=Lh hrd;have H4:=Lh h4;clear hxk hrd h4;go_wp2_with (
    go_at_call 59
    refine(Hih.out f' ys _ _ _ (by omega) (by omega) (Hr.out.low (aD wr _) (by omega)) (by simp;omega)).mono ?_;rintro e w1 ⟨rfl,hb1⟩)
   have hb2:Below wr.heap.size wr w1:=(aD wr _).trans (hb1.mono (by simp));go_roundw
   case rel=>
    refine⟨k+1,by omega,by go_num,?_,?_,Hbel.out.trans (hb2.mono (by omega)),?_⟩
    . rw[h2];congr 1;omega
    . rw[H4.out];congr 1;omega
    rw[hb2.block _ hsz];exact Hown.out
   case measure=>simp[intOf];omega
 have e:xs.take k=xs:=List.take_of_length_le (by omega);have h6:=fI xs;rw[e];go_wp2_with fail;refine bodyPost_ret (results_tmp2 rfl _ _ _) rfl ?_;exact⟨by simp,Hbel.out⟩
def bJ (f:Int)(n:Nat):Bool:=decide (f=0)&&decide (n=0)
theorem bE (f:Int)(xs:List Tm)(v2:Value)(B:Nat)(w:World)(hr:Rd w B (.sl 2 (aH xs)) v2):
 Calls Try.prog 71 #[.agg #[.int .i64 f,v2]] w (λe w'=>e=.returned (.bool (bJ f xs.length))/\Below w.heap.size w w'):=by
 obtain⟨A,c,rfl,hc,hn,hm⟩:=hr.tm_form;clear hr;by_cases hf:f=0
 . subst hf;by_cases hx:xs.length=0
   . have hb:bJ 0 xs.length=true:=(by unfold bJ;simp[hx]);have Hb:=Lh hb;have q:((xs.length:Int)==0)=true:=(by rw[hx];rfl);clear hb;go_enter Try.func71,Try.ntmps71;go_wp2_with fail;go_ret;exact⟨by rw[Hb.out];rfl,aD w _⟩
   have hb:bJ 0 xs.length=false:=by unfold bJ;simp[hx]
   have Hb:=Lh hb;have q:((xs.length:Int)==0)=false:=by rw[beq_eq_false_iff_ne];omega
   clear hb hx;go_enter Try.func71,Try.ntmps71;go_wp2_with fail;go_ret;exact⟨by rw[Hb.out];rfl,aD w _⟩
 have hb:bJ f xs.length=false:=by unfold bJ;simp[hf]
 have Hb:=Lh hb;have q:(f==0)=false:=by rw[beq_eq_false_iff_ne];exact hf
 clear hb hf;go_enter Try.func71,Try.ntmps71;go_wp2_with fail;go_ret;exact⟨by rw[Hb.out];rfl,aD w _⟩
mutual
def fE {σ:Type} (stp:σ->Int->Nat->σ):σ->Tm->σ
 | s,.mk f xs=>cR stp (if f<0 then stp s (wrap64 (-1-f)) xs.length else s) xs
def cR {σ:Type} (stp:σ->Int->Nat->σ):σ->List Tm->σ
 | s,[]=>s
 | s,x::xs=>cR stp (fE stp s x) xs
end
theorem sB {σ:Type} (stp:σ->Int->Nat->σ)(xs ys:List Tm):∀s,cR stp s (xs++ys)=cR stp (cR stp s xs) ys:=by
 induction xs with
 | nil=>intro s;simp[cR]
 | cons x xs ih=>intro s;simp[cR,ih]
theorem gW {σ:Type} (stp:σ->Int->Nat->σ)(s:σ) {xs:List Tm} {k:Nat} (h:k<xs.length):cR stp s (xs.take (k+1))=fE stp (cR stp s (xs.take k)) xs[k]:=by
 rw[List.take_succ_eq_append_getElem h,sB];simp[cR]
structure StOk {σ:Type} (F:Nat->Prop)(I:σ->World->Prop):Prop where
 low:∀s w w',I s w->Below w.heap.size w w'->I s w'
 lt:∀s w k,I s w->F k->k<w.heap.size
def pM {σ:Type} (F:Nat->Prop)(I:σ->World->Prop)(s:σ)(w:World)(e:Ending)(w':World):Prop:=e=.returned (.tuple #[])/\I s w'/\Upd w w' F
theorem cC {a b c:World} {F:Nat->Prop} (h:Upd a b F)(k:Upd b c F):Upd a c F:=h.trans k λ_ hi=>.inl hi
theorem iC {a b:World} (F:Nat->Prop)(h:Below a.heap.size a b):Upd a b F:=Upd.low h F
theorem iW {σ:Type} (stp:σ->Int->Nat->σ)(F:Nat->Prop)(I:σ->World->Prop)(hok:StOk F I)(B:Nat)(hF:∀k,F k->B<=k)(bx:Array Value)
 (hclo:∀s v n w,I s w->Calls Try.prog 61 (#[.int .i64 v,.int .i64 (n:Nat)]++bx) w (pM F I (stp s v n) w)) (d:Nat):
 ∀(f:Int) (xs:List Tm) (v2:Value) (s:σ) (w:World),aI xs<d->Rd w B (.sl 2 (aH xs)) v2->B<=w.heap.size->I s w->
 Calls Try.prog 60 #[.agg #[.int .i64 f,v2],.func (.func 61) #[] bx] w (pM F I (fE stp s (.mk f xs)) w):=by
 have Hok:=Lh hok;have HF:=Lh hF;have Hclo:=Lh hclo;clear hok hF hclo;induction d with
 | zero=>intro f xs v2 s w h;omega
 | succ d ih=>
 intro f xs v2 s w hd hr hB hst;obtain⟨A,c,rfl,hc,hn,hm⟩:=hr.tm_form;have hnf:¬F w.heap.size:=λhf=>absurd (Hok.out.lt _ _ _ hst hf) (by omega)
 have Hn:=Lh hnf;have H3:=Lh hr;have Hih:=Lh ih;have Hst:=Lh hst;clear hr ih hst hnf;by_cases hf:f<0
 . have he:fE stp s (.mk f xs)=cR stp (stp s (wrap64 (-1-f)) xs.length) xs:=by rw[fE,if_pos hf]
   have HE:=Lh he;clear he;go_enter Try.func60,Try.ntmps60;go_wp2_with (
    go_at_call 61
    refine(Hclo.out s (wrap64 (-1-f)) xs.length _ (Hok.out.low _ _ _ Hst.out (aD w _))).mono ?_;rintro e w1 ⟨rfl,hst1,hup1⟩;have hb1:=(hup1.block w.heap.size (by simp) Hn.out).trans (heap_alloc_new w _);have hbx1:=λo=>cell_of_row w1 w.heap.size o _ _ _ hb1
    have Hs2:=Lh hst1;have Hu2:=Lh ((iC F (aD w _)).trans hup1 (λi hi=>.inl hi));have Hb2:=Lh hb1;clear hst1 hup1 hb1)
   clear hbx1;go_loopw [20] (λi wr=>∃k:Nat,k<=xs.length/\i=.int .i64 k/\I (cR stp (stp s (wrap64 (-1-f)) xs.length) (xs.take k)) wr/\Upd w wr F/\wr.heap[w.heap.size]? =some (Obj.cells #[Value.int .i64 f,Value.slice A xs.length c] 87 (0,0))) (λi _=>xs.length-(intOf i).toNat)
   case atStart=>exact⟨0,Nat.zero_le _,rfl,Hs2.out,Hu2.out,Hb2.out⟩
   clear Hs2 Hu2 Hb2;obtain⟨k,hk,rfl,hst,hupd,hown⟩:=hrel;have hsz:=eA hown;have hown2:=λo=>cell_of_row wr w.heap.size o _ _ _ hown
   have Hown:=Lh hown;have Hst:=Lh hst;have Hupd:=Lh hupd;have hzr:=hupd.size;clear hown hst hupd;by_cases hlt:k<xs.length
   . obtain⟨ab,off,f',ys,A2,c2,rfl,hxk,hb,c0,c1,hrd⟩:=(Hupd.out.keepRd H3.out hB (λk hk=>(HF.out k hk))).tm_at hlt;have h1:=aZ hlt;have h4:=gW stp (stp s (wrap64 (-1-f)) xs.length) hlt;rw[hxk]at h1 h4;simp only[aK]at h1;have Hr:=Lh hrd;have H4:=Lh h4;clear hxk hrd h4;go_wp2_with (
      go_at_call 60
      refine(Hih.out f' ys _ (cR stp (stp s (wrap64 (-1-f)) xs.length) (xs.take k)) _ (by omega) (Hr.out.low (aD wr _) (by omega)) (by simp;omega) (Hok.out.low _ _ _ Hst.out (aD wr _))).mono ?_;rintro e w1 ⟨rfl,hst1,hup1⟩;have Hst1:=Lh hst1;have Hup1:=Lh ((iC F (aD wr _)).trans hup1 (λi hi=>.inl hi));clear hst1 hup1)
     go_roundw
     case rel=>
      refine⟨k+1,by omega,by go_num,?_,cC Hupd.out Hup1.out,?_⟩
      . rw[H4.out];exact Hst1.out
      rw[Hup1.out.block w.heap.size hsz (λhf=>Hn.out hf)];exact Hown.out
     case measure=>simp[intOf];omega
   have e:xs.take k=xs:=List.take_of_length_le (by omega);have hst2:=Hst.out;rw[e]at hst2;have Hst2:=Lh hst2;clear hst2 e;go_wp2_with fail;go_end0
   refine⟨rfl,?_,Hupd.out⟩;rw[HE.out];exact Hst2.out
 have he:fE stp s (.mk f xs)=cR stp s xs:=by rw[fE,if_neg hf]
 have HE:=Lh he;have Hs2:=Lh (Hok.out.low _ _ _ Hst.out (aD w (.cells #[.int .i64 f,.slice A xs.length c] 87)));have Hu2:=Lh (iC F (aD w (.cells #[.int .i64 f,.slice A xs.length c] 87)));have Hb2:=Lh (heap_alloc_new w (.cells #[.int .i64 f,.slice A xs.length c] 87));clear he;go_enter Try.func60,Try.ntmps60;go_wp2_with fail;go_loopw [20] (λi wr=>∃k:Nat,k<=xs.length/\i=.int .i64 k/\I (cR stp s (xs.take k)) wr/\Upd w wr F/\wr.heap[w.heap.size]? =some (Obj.cells #[Value.int .i64 f,Value.slice A xs.length c] 87 (0,0))) (λi _=>xs.length-(intOf i).toNat)
 case atStart=>exact⟨0,Nat.zero_le _,rfl,Hs2.out,Hu2.out,Hb2.out⟩
 clear Hs2 Hu2 Hb2;obtain⟨k,hk,rfl,hst,hupd,hown⟩:=hrel;have hsz:=eA hown;have hown2:=λo=>cell_of_row wr w.heap.size o _ _ _ hown
 have Hown:=Lh hown;have Hst:=Lh hst;have Hupd:=Lh hupd;have hzr:=hupd.size;clear hown hst hupd;by_cases hlt:k<xs.length
 . obtain⟨ab,off,f',ys,A2,c2,rfl,hxk,hb,c0,c1,hrd⟩:=(Hupd.out.keepRd H3.out hB (λk hk=>(HF.out k hk))).tm_at hlt;have h1:=aZ hlt;have h4:=gW stp s hlt;rw[hxk]at h1 h4;simp only[aK]at h1;have Hr:=Lh hrd;have H4:=Lh h4;clear hxk hrd h4;go_wp2_with (
    go_at_call 60
    refine(Hih.out f' ys _ (cR stp s (xs.take k)) _ (by omega) (Hr.out.low (aD wr _) (by omega)) (by simp;omega) (Hok.out.low _ _ _ Hst.out (aD wr _))).mono ?_;rintro e w1 ⟨rfl,hst1,hup1⟩;have Hst1:=Lh hst1;have Hup1:=Lh ((iC F (aD wr _)).trans hup1 (λi hi=>.inl hi));clear hst1 hup1)
   go_roundw
   case rel=>
    refine⟨k+1,by omega,by go_num,?_,cC Hupd.out Hup1.out,?_⟩
    . rw[H4.out];exact Hst1.out
    rw[Hup1.out.block w.heap.size hsz (λhf=>Hn.out hf)];exact Hown.out
   case measure=>simp[intOf];omega
 have e:xs.take k=xs:=List.take_of_length_le (by omega);have hst2:=Hst.out;rw[e]at hst2;have Hst2:=Lh hst2;clear hst2 e;go_wp2_with fail;go_end0
 refine⟨rfl,?_,Hupd.out⟩;rw[HE.out];exact Hst2.out
theorem uV {σ:Type} (stp:σ->Int->Nat->σ)(F:Nat->Prop)(I:σ->World->Prop)(hok:StOk F I)(B:Nat)(hF:∀k,F k->B<=k)(bx:Array Value)
 (hclo:∀s v n w,I s w->Calls Try.prog 77 (#[.int .i64 v,.int .i64 (n:Nat)]++bx) w (pM F I (stp s v n) w)) (d:Nat):
 ∀(f:Int) (xs:List Tm) (v2:Value) (s:σ) (w:World),aI xs<d->Rd w B (.sl 2 (aH xs)) v2->B<=w.heap.size->I s w->
 Calls Try.prog 60 #[.agg #[.int .i64 f,v2],.func (.func 77) #[] bx] w (pM F I (fE stp s (.mk f xs)) w):=by
 have Hok:=Lh hok;have HF:=Lh hF;have Hclo:=Lh hclo;clear hok hF hclo;induction d with
 | zero=>intro f xs v2 s w h;omega
 | succ d ih=>
 intro f xs v2 s w hd hr hB hst;obtain⟨A,c,rfl,hc,hn,hm⟩:=hr.tm_form;have hnf:¬F w.heap.size:=λhf=>absurd (Hok.out.lt _ _ _ hst hf) (by omega)
 have Hn:=Lh hnf;have H3:=Lh hr;have Hih:=Lh ih;have Hst:=Lh hst;clear hr ih hst hnf;by_cases hf:f<0
 . have he:fE stp s (.mk f xs)=cR stp (stp s (wrap64 (-1-f)) xs.length) xs:=by rw[fE,if_pos hf]
   have HE:=Lh he;clear he;go_enter Try.func60,Try.ntmps60;go_wp2_with (
    go_at_call 77
    refine(Hclo.out s (wrap64 (-1-f)) xs.length _ (Hok.out.low _ _ _ Hst.out (aD w _))).mono ?_;rintro e w1 ⟨rfl,hst1,hup1⟩;have hb1:=(hup1.block w.heap.size (by simp) Hn.out).trans (heap_alloc_new w _);have hbx1:=λo=>cell_of_row w1 w.heap.size o _ _ _ hb1
    have Hs2:=Lh hst1;have Hu2:=Lh ((iC F (aD w _)).trans hup1 (λi hi=>.inl hi));have Hb2:=Lh hb1;clear hst1 hup1 hb1)
   clear hbx1;go_loopw [20] (λi wr=>∃k:Nat,k<=xs.length/\i=.int .i64 k/\I (cR stp (stp s (wrap64 (-1-f)) xs.length) (xs.take k)) wr/\Upd w wr F/\wr.heap[w.heap.size]? =some (Obj.cells #[Value.int .i64 f,Value.slice A xs.length c] 87 (0,0))) (λi _=>xs.length-(intOf i).toNat)
   case atStart=>exact⟨0,Nat.zero_le _,rfl,Hs2.out,Hu2.out,Hb2.out⟩
   clear Hs2 Hu2 Hb2;obtain⟨k,hk,rfl,hst,hupd,hown⟩:=hrel;have hsz:=eA hown;have hown2:=λo=>cell_of_row wr w.heap.size o _ _ _ hown
   have Hown:=Lh hown;have Hst:=Lh hst;have Hupd:=Lh hupd;have hzr:=hupd.size;clear hown hst hupd;by_cases hlt:k<xs.length
   . obtain⟨ab,off,f',ys,A2,c2,rfl,hxk,hb,c0,c1,hrd⟩:=(Hupd.out.keepRd H3.out hB (λk hk=>(HF.out k hk))).tm_at hlt;have h1:=aZ hlt;have h4:=gW stp (stp s (wrap64 (-1-f)) xs.length) hlt;rw[hxk]at h1 h4;simp only[aK]at h1;have Hr:=Lh hrd;have H4:=Lh h4;clear hxk hrd h4;go_wp2_with (
      go_at_call 60
      refine(Hih.out f' ys _ (cR stp (stp s (wrap64 (-1-f)) xs.length) (xs.take k)) _ (by omega) (Hr.out.low (aD wr _) (by omega)) (by simp;omega) (Hok.out.low _ _ _ Hst.out (aD wr _))).mono ?_;rintro e w1 ⟨rfl,hst1,hup1⟩;have Hst1:=Lh hst1;have Hup1:=Lh ((iC F (aD wr _)).trans hup1 (λi hi=>.inl hi));clear hst1 hup1)
     go_roundw
     case rel=>
      refine⟨k+1,by omega,by go_num,?_,cC Hupd.out Hup1.out,?_⟩
      . rw[H4.out];exact Hst1.out
      rw[Hup1.out.block w.heap.size hsz (λhf=>Hn.out hf)];exact Hown.out
     case measure=>simp[intOf];omega
   have e:xs.take k=xs:=List.take_of_length_le (by omega);have hst2:=Hst.out;rw[e]at hst2;have Hst2:=Lh hst2;clear hst2 e;go_wp2_with fail;go_end0
   refine⟨rfl,?_,Hupd.out⟩;rw[HE.out];exact Hst2.out
 have he:fE stp s (.mk f xs)=cR stp s xs:=by rw[fE,if_neg hf]
 have HE:=Lh he;have Hs2:=Lh (Hok.out.low _ _ _ Hst.out (aD w (.cells #[.int .i64 f,.slice A xs.length c] 87)));have Hu2:=Lh (iC F (aD w (.cells #[.int .i64 f,.slice A xs.length c] 87)));have Hb2:=Lh (heap_alloc_new w (.cells #[.int .i64 f,.slice A xs.length c] 87));clear he;go_enter Try.func60,Try.ntmps60;go_wp2_with fail;go_loopw [20] (λi wr=>∃k:Nat,k<=xs.length/\i=.int .i64 k/\I (cR stp s (xs.take k)) wr/\Upd w wr F/\wr.heap[w.heap.size]? =some (Obj.cells #[Value.int .i64 f,Value.slice A xs.length c] 87 (0,0))) (λi _=>xs.length-(intOf i).toNat)
 case atStart=>exact⟨0,Nat.zero_le _,rfl,Hs2.out,Hu2.out,Hb2.out⟩
 clear Hs2 Hu2 Hb2;obtain⟨k,hk,rfl,hst,hupd,hown⟩:=hrel;have hsz:=eA hown;have hown2:=λo=>cell_of_row wr w.heap.size o _ _ _ hown
 have Hown:=Lh hown;have Hst:=Lh hst;have Hupd:=Lh hupd;have hzr:=hupd.size;clear hown hst hupd;by_cases hlt:k<xs.length
 . obtain⟨ab,off,f',ys,A2,c2,rfl,hxk,hb,c0,c1,hrd⟩:=(Hupd.out.keepRd H3.out hB (λk hk=>(HF.out k hk))).tm_at hlt;have h1:=aZ hlt;have h4:=gW stp s hlt;rw[hxk]at h1 h4;simp only[aK]at h1;have Hr:=Lh hrd;have H4:=Lh h4;clear hxk hrd h4;go_wp2_with (
    go_at_call 60
    refine(Hih.out f' ys _ (cR stp s (xs.take k)) _ (by omega) (Hr.out.low (aD wr _) (by omega)) (by simp;omega) (Hok.out.low _ _ _ Hst.out (aD wr _))).mono ?_;rintro e w1 ⟨rfl,hst1,hup1⟩;have Hst1:=Lh hst1;have Hup1:=Lh ((iC F (aD wr _)).trans hup1 (λi hi=>.inl hi));clear hst1 hup1)
   go_roundw
   case rel=>
    refine⟨k+1,by omega,by go_num,?_,cC Hupd.out Hup1.out,?_⟩
    . rw[H4.out];exact Hst1.out
    rw[Hup1.out.block w.heap.size hsz (λhf=>Hn.out hf)];exact Hown.out
   case measure=>simp[intOf];omega
 have e:xs.take k=xs:=List.take_of_length_le (by omega);have hst2:=Hst.out;rw[e]at hst2;have Hst2:=Lh hst2;clear hst2 e;go_wp2_with fail;go_end0
 refine⟨rfl,?_,Hupd.out⟩;rw[HE.out];exact Hst2.out
def aU (b:Nat)(t:TypeId)(v:Value)(w:World):Prop:=w.heap[b]? =some (.cells #[v] t (0,0))
theorem aU.low {b:Nat} {t:TypeId} {v:Value} {w w':World} (h:aU b t v w)(hb:Below w.heap.size w w'):aU b t v w':=(hb.block b (eA h)).trans h
theorem aU.cell {b:Nat} {t:TypeId} {v:Value} {w:World} (h:aU b t v w):w.cell? ⟨b,0,none⟩=some v:=by rw[cell_of_row w b 0 _ _ _ h];rfl
theorem aU.free {b:Nat} {t:TypeId} {v:Value} {w:World} (h:aU b t v w):w.frozen? ⟨b,0,none⟩=false:=frozen_of_row w b 0 _ _ h
theorem aU.set {b:Nat} {t:TypeId} {v:Value} {w:World} (h:aU b t v w)(u:Value):aU b t u (w.setCell ⟨b,0,none⟩ u):=by
 have:=heap_setCell_same w b 0 _ _ u h;exact this.trans rfl
def eC (s:Bool)(v:Int)(n:Nat):Bool:=s&&decide (n=0)&&decide (v<48)
def mO (t:Tm):Bool:=fE eC (decide (aK t<=300)&&decide (dF t<=30)) t
theorem nU (bo:Nat)(s:Bool)(v:Int)(n:Nat)(w:World)(h:aU bo 4 (.bool s) w):
 Calls Try.prog 61 (#[.int .i64 v,.int .i64 (n:Nat)]++ #[.pointer (some ⟨bo,0,none⟩)]) w (pM (λk=>k=bo) (λs w=>aU bo 4 (.bool s) w) (eC s v n) w):=by
 have hc:=h.cell;have hf:=h.free;have hl:=eA h;have H:=Lh h;clear h;have key:∀r,eC s v n=r->(λe w'=>e=Ending.returned (.tuple #[])/\w'=w.setCell ⟨bo,0,none⟩ (.bool r))=(λe w'=>e=Ending.returned (.tuple #[])/\w'=w.setCell ⟨bo,0,none⟩ (.bool (eC s v n))):=λr hr=>by rw[hr]
 have fin:∀e w',(e=Ending.returned (.tuple #[])/\w'=w.setCell ⟨bo,0,none⟩ (.bool (eC s v n)))->pM (λk=>k=bo) (λs w=>aU bo 4 (.bool s) w) (eC s v n) w e w':=by
  rintro e w' ⟨rfl,rfl⟩;exact⟨rfl,H.out.set _,(Upd.refl w _).setCell _ _ (.inl rfl)⟩
 refine Calls.mono ?_ fin;obtain⟨r,hr⟩:∃r,eC s v n=r:=⟨_,rfl⟩;rw[hr];clear fin key;cases s with
 | false=>
  obtain rfl:r=false:=by rw[<-hr];rfl
  clear hr H;go_enter Try.func61,Try.ntmps61;go_wp2_with fail;go_end0
  exact⟨rfl,rfl⟩
 | true=>
  by_cases hn:n=0
  . subst hn;by_cases hv:v<48
    . obtain rfl:r=true:=by rw[<-hr];simp[eC,hv]
      clear hr H;go_enter Try.func61,Try.ntmps61;go_wp2_with fail;go_end0
      exact⟨rfl,rfl⟩
    obtain rfl:r=false:=by rw[<-hr];simp[eC];omega
    clear hr H;go_enter Try.func61,Try.ntmps61;go_wp2_with fail;go_end0
    exact⟨rfl,rfl⟩
  obtain rfl:r=false:=by rw[<-hr];simp[eC,hn]
  have q:((n:Int)==0)=false:=by rw[beq_eq_false_iff_ne];omega
  clear hr H hn;go_enter Try.func61,Try.ntmps61;go_wp2_with fail;go_end0
  exact⟨rfl,rfl⟩
def aP (b:Bool)(w:World)(e:Ending)(w':World):Prop:=e=.returned (.bool b)/\Below w.heap.size w w'
theorem qD (f:Int)(xs:List Tm)(v2:Value)(B:Nat)(w:World)(hz:aI xs<=10000000000)(hr:Rd w B (.sl 2 (aH xs)) v2)(hB:B<=w.heap.size):
 Calls Try.prog 44 #[.agg #[.int .i64 f,v2]] w (aP (mO (.mk f xs)) w):=by
 obtain⟨A,c,rfl,hc,hn,hm⟩:=hr.tm_form;have hd:=fI xs;obtain⟨b0,hb0⟩:∃b0:Bool,(decide (((aI xs+1:Nat):Int)<=300)&&decide (((bO xs+1:Nat):Int)<=30))=b0:=⟨_,rfl⟩;have hfb:mO (.mk f xs)=fE eC b0 (.mk f xs):=by
  have e1:decide (((aI xs+1:Nat):Int)<=300)=decide (aK (.mk f xs)<=300):=by rw[decide_eq_decide];simp only[aK];omega
  have e2:decide (((bO xs+1:Nat):Int)<=30)=decide (dF (.mk f xs)<=30):=by rw[decide_eq_decide];simp only[dF];omega
  rw[e1,e2]at hb0;unfold mO;rw[hb0]
 have hcase:(aI xs+1<=300/\bO xs+1<=30/\b0=true)\/(aI xs+1<=300/\30<bO xs+1/\b0=false)\/(300<aI xs+1/\b0=false):=by
  by_cases h1:aI xs+1<=300
  . by_cases h2:bO xs+1<=30
    . exact .inl ⟨h1,h2,by rw[<-hb0,decide_eq_true (by omega),decide_eq_true (by omega)];rfl⟩
    exact .inr (.inl ⟨h1,by omega,by rw[<-hb0,decide_eq_true (by omega),decide_eq_false (by omega)];rfl⟩)
  exact .inr (.inr ⟨by omega,by rw[<-hb0,decide_eq_false (by omega)];rfl⟩)
 have Hfb:=Lh hfb;have H3:=Lh hr;clear hfb hb0 hr;rcases hcase with⟨q1,q2,rfl⟩ | ⟨q1,q2,rfl⟩ | ⟨q1,rfl⟩
 all_goals
  go_enter Try.func44,Try.ntmps44;go_upto_region 3 with(
   go_at_call 59
   refine(xB _ f xs _ B _ (Nat.lt_succ_self _) hz (H3.out.low (aD w _) hB) (by simp;omega)).mono ?_;rintro e w1 ⟨rfl,hb1⟩;have hbx1:=λo=>cell_of_row w1 w.heap.size o _ _ _ ((hb1.block w.heap.size (by simp)).trans (heap_alloc_new w _))
   have Hb1:=Lh ((aD w _).trans (hb1.mono (by simp)));have hz1:=hb1.size;have hz2:w.heap.size<w1.heap.size:=by simp at hz1;omega
   clear hb1 hz1)
 . rw[show decide (((bO xs:Nat):Int)+1<=30)=true from decide_eq_true (by omega)];have hbo:=heap_alloc_new w1 (.cells #[.bool true] 4);have hbw:=aD w1 (.cells #[.bool true] 4);have hz3:(w1.alloc (.cells #[.bool true] 4)).heap.size=w1.heap.size+1:=by simp
   generalize w1.alloc (.cells #[.bool true] 4)=w2 at hbo hbw hz3 ⊢;have hbx2:=λo=>(hbw.cell (p:=⟨w.heap.size,o,none⟩) hz2).trans (hbx1 o)
   have Hbo:=Lh hbo;have Hbw:=Lh hbw;clear hbo hbw hbx1;go_wp2_with (
    go_at_call 60
    refine(iW eC (λk=>k=w1.heap.size) (λs w=>aU w1.heap.size 4 (.bool s) w) ⟨λ_ _ _ h hb=>h.low hb,λ_ _ k h hk=>by subst hk;exact eA h⟩ B (by rintro k rfl;omega) #[.pointer (some ⟨w1.heap.size,0,none⟩)] (λs v n w h=>nU _ s v n w h) _ f xs _ true _ (Nat.lt_succ_self _) ((H3.out.low Hb1.out hB).low Hbw.out (by omega)) (by omega) Hbo.out).mono ?_;rintro e w3 ⟨rfl,hbx3,hup3⟩;have hc3:=hbx3.cell;have Hup3:=Lh hup3;clear hbx3 hup3)
   go_ret;refine⟨by rw[Hfb.out];rfl,Hb1.out.trans ((Hbw.out.mono (by omega)).trans (Hup3.out.toLow (by omega) (by rintro k rfl;omega)))⟩
 . rw[show decide (((bO xs:Nat):Int)+1<=30)=false from decide_eq_false (by omega)];have hbo:=heap_alloc_new w1 (.cells #[.bool false] 4);have hbw:=aD w1 (.cells #[.bool false] 4);have hz3:(w1.alloc (.cells #[.bool false] 4)).heap.size=w1.heap.size+1:=by simp
   generalize w1.alloc (.cells #[.bool false] 4)=w2 at hbo hbw hz3 ⊢;have hbx2:=λo=>(hbw.cell (p:=⟨w.heap.size,o,none⟩) hz2).trans (hbx1 o)
   have Hbo:=Lh hbo;have Hbw:=Lh hbw;clear hbo hbw hbx1;go_wp2_with (
    go_at_call 60
    refine(iW eC (λk=>k=w1.heap.size) (λs w=>aU w1.heap.size 4 (.bool s) w) ⟨λ_ _ _ h hb=>h.low hb,λ_ _ k h hk=>by subst hk;exact eA h⟩ B (by rintro k rfl;omega) #[.pointer (some ⟨w1.heap.size,0,none⟩)] (λs v n w h=>nU _ s v n w h) _ f xs _ false _ (Nat.lt_succ_self _) ((H3.out.low Hb1.out hB).low Hbw.out (by omega)) (by omega) Hbo.out).mono ?_;rintro e w3 ⟨rfl,hbx3,hup3⟩;have hc3:=hbx3.cell;have Hup3:=Lh hup3;clear hbx3 hup3)
   go_ret;refine⟨by rw[Hfb.out];rfl,Hb1.out.trans ((Hbw.out.mono (by omega)).trans (Hup3.out.toLow (by omega) (by rintro k rfl;omega)))⟩
 ·
  have hbo:=heap_alloc_new w1 (.cells #[.bool false] 4);have hbw:=aD w1 (.cells #[.bool false] 4);have hz3:(w1.alloc (.cells #[.bool false] 4)).heap.size=w1.heap.size+1:=by simp
  generalize w1.alloc (.cells #[.bool false] 4)=w2 at hbo hbw hz3 ⊢;have hbx2:=λo=>(hbw.cell (p:=⟨w.heap.size,o,none⟩) hz2).trans (hbx1 o)
  have Hbo:=Lh hbo;have Hbw:=Lh hbw;clear hbo hbw hbx1;go_wp2_with (
   go_at_call 60
   refine(iW eC (λk=>k=w1.heap.size) (λs w=>aU w1.heap.size 4 (.bool s) w) ⟨λ_ _ _ h hb=>h.low hb,λ_ _ k h hk=>by subst hk;exact eA h⟩ B (by rintro k rfl;omega) #[.pointer (some ⟨w1.heap.size,0,none⟩)] (λs v n w h=>nU _ s v n w h) _ f xs _ false _ (Nat.lt_succ_self _) ((H3.out.low Hb1.out hB).low Hbw.out (by omega)) (by omega) Hbo.out).mono ?_;rintro e w3 ⟨rfl,hbx3,hup3⟩;have hc3:=hbx3.cell;have Hup3:=Lh hup3;clear hbx3 hup3)
  go_ret;refine⟨by rw[Hfb.out];rfl,Hb1.out.trans ((Hbw.out.mono (by omega)).trans (Hup3.out.toLow (by omega) (by rintro k rfl;omega)))⟩
def LtV (w:World)(B:Nat)(x:Lt)(v:Value):Prop:=
 ∃A1 c1 A2 c2,v=.agg #[.bool x.neg,.int .i64 x.l.fn,.slice A1 x.l.args.length c1,.int .i64 x.r.fn,.slice A2 x.r.args.length c2]/\Rd w B (.sl 2 (aH x.l.args)) (.slice A1 x.l.args.length c1)/\Rd w B (.sl 2 (aH x.r.args)) (.slice A2 x.r.args.length c2)
def pK (p:Nat->Bool)(n:Nat)(w:World)(e:Ending)(w':World):Prop:=
 ∃i:Int,e=.returned (.int .i64 i)/\Below w.heap.size w w'/\((i= -1/\(List.range n).any p=false)\/(∃k:Nat,k<n/\i=k/\(List.range n).any p=true))
theorem iJ {p:Nat->Bool} {n:Nat} (h:∀k,k<n->p k=false):(List.range n).any p=false:=by
 rw[Bool.eq_false_iff];intro h2;rw[List.any_eq_true]at h2;obtain⟨k,hk,hp⟩:=h2;rw[h k (List.mem_range.1 hk)]at hp;cases hp
theorem eB {p:Nat->Bool} {n k:Nat} (hk:k<n)(h:p k=true):(List.range n).any p=true:=List.any_eq_true.2 ⟨k,List.mem_range.2 hk,h⟩
theorem sC (bx:Array Value)(p:Nat->Bool)(xs:List Lt)(v:Value)(B:Nat)(w:World)(hr:Rd w B (aT xs) v)(hB:B<=w.heap.size)
 (hclo:∀k (hk:k<xs.length) w1 ev,Below w.heap.size w w1->LtV w1 B xs[k] ev->Calls Try.prog 43 (#[ev]++bx) w1 (aP (p k) w1)):
 Calls Try.prog 58 #[v,.func (.func 43) #[] bx] w (pK p xs.length w):=by
 obtain⟨A,c,rfl,hc,hn,hm⟩:=Rd.row_form hr;have H3:=Lh hr;have Hclo:=Lh hclo;clear hr hclo;go_enter Try.func58,Try.ntmps58;go_wp2_with fail;go_loopw [8] (λi wr=>∃k:Nat,k<=xs.length/\i=.int .i64 k/\(∀j,j<k->p j=false)/\Below w.heap.size w wr) (λi _=>xs.length-(intOf i).toNat)
 case atStart=>exact⟨0,Nat.zero_le _,rfl,λj hj=>by omega,Below.refl _ _⟩
 obtain⟨k,hk,rfl,hall,hbel⟩:=hrel;have Hall:=Lh hall;have Hbel:=Lh hbel;have hzr:=hbel.size;clear hall hbel;by_cases hlt:k<xs.length
 ·
  obtain⟨ab,off,b,f1,ys1,A1,c1,f2,ys2,A2,c2,rfl,hxk,hb,k0,k1,k2,k3,k4,hr1,hr2⟩:=(H3.out.low Hbel.out hB).lt_at hlt;have hcl:=Hclo.out k hlt wr (.agg #[.bool b,.int .i64 f1,.slice A1 ys1.length c1,.int .i64 f2,.slice A2 ys2.length c2]) Hbel.out (by rw[hxk];exact⟨A1,c1,A2,c2,rfl,hr1,hr2⟩);have Hcl:=Lh hcl;clear hxk hr1 hr2 hcl;cases hp:p k with
  | true=>
   rw[hp]at Hcl;go_wp2_with (
    go_at_call 43
    refine Hcl.out.mono ?_;rintro e w1 ⟨rfl,hb1⟩)
   go_ret;exact⟨k,rfl,Hbel.out.trans (hb1.mono hzr),.inr ⟨k,hlt,rfl,eB hlt hp⟩⟩
  | false=>
   rw[hp]at Hcl;have Hp:=Lh hp;clear hp;go_wp2_with (
    go_at_call 43
    refine Hcl.out.mono ?_;rintro e w1 ⟨rfl,hb1⟩)
   go_roundw
   case rel=>
    refine⟨k+1,by omega,by go_num,λj hj=>?_,Hbel.out.trans (hb1.mono hzr)⟩;by_cases hjk:j=k
    . subst hjk;exact Hp.out
    exact Hall.out j (by omega)
   case measure=>simp[intOf];omega
 . go_wp2_with fail;go_ret;exact⟨-1,rfl,Hbel.out,.inl ⟨rfl,iJ λj hj=>Hall.out j (by omega)⟩⟩
theorem wK (bx:Array Value)(p:Nat->Bool)(xs:List Lt)(v:Value)(B:Nat)(w:World)(hr:Rd w B (aT xs) v)(hB:B<=w.heap.size)
 (hclo:∀k (hk:k<xs.length) w1 ev,Below w.heap.size w w1->LtV w1 B xs[k] ev->Calls Try.prog 43 (#[ev]++bx) w1 (aP (p k) w1)):
 Calls Try.prog 42 #[v,.func (.func 43) #[] bx] w (aP ((List.range xs.length).any p) w):=by
 have Hclo:=Lh hclo;have H3:=Lh hr;clear hclo hr;go_enter Try.func42,Try.ntmps42;go_wp2_with (
  go_at_call 58
  refine(sC bx p xs v B w H3.out hB Hclo.out).mono ?_;rintro e w1 ⟨i,rfl,hb1,hc1⟩)
 rcases hc1 with⟨rfl,h⟩ | ⟨k,hk,rfl,h⟩
 . go_ret;exact⟨by rw[h];rfl,hb1⟩
 go_ret;refine⟨?_,hb1⟩;rw[h];show Ending.returned (.bool (decide ((0:Int)<=(k:Int))))=_
 rw[decide_eq_true (by omega)]
def jD (x:Lt):Bool:=mO x.l&&mO x.r
def dN (x:Lt):Nat:=aK x.l+aK x.r
def aR (c:Cl):Nat:=(c.map dN).sum
theorem iO {c:Cl} {k:Nat} (h:k<c.length):dN c[k]<=aR c:=by
 unfold aR;induction c generalizing k with
 | nil=>simp at h
 | cons x xs ih=>
  cases k with
  | zero=>simp
  | succ k=>
   have:=ih (k:=k) (by simpa using h);simp only[List.map_cons,List.sum_cons,List.getElem_cons_succ];omega
def sS (c:Cl)(k:Nat):Bool:= !((c[k]?.map jD).getD true)
def eK (c:Cl):Bool:=decide (c.length<=16)&& !((List.range c.length).any (sS c))
theorem fY (t:Tm):Tm.mk t.fn t.args=t:=by cases t;rfl
theorem LtV.sizes {w:World} {B:Nat} {x:Lt} {v:Value} (_:LtV w B x v):aI x.l.args<dN x/\aI x.r.args<dN x:=by
 rcases x with⟨b,⟨f,ys⟩,⟨g,zs⟩⟩
 simp only[dN,aK,Tm.args];omega
theorem aC4 (x:Lt)(ev:Value)(B:Nat)(w:World)(hv:LtV w B x ev)(hz:dN x<=10000000000)(hB:B<=w.heap.size):
 Calls Try.prog 43 (#[ev]++ #[]) w (aP (!jD x) w):=by
 obtain⟨h1,h2⟩:=hv.sizes;obtain⟨A1,c1,A2,c2,rfl,r1,r2⟩:=hv;have e1:=fY x.l;have e2:=fY x.r;obtain⟨b1,hb1⟩:∃b1,mO x.l=b1:=⟨_,rfl⟩;obtain⟨b2,hb2⟩:∃b2,mO x.r=b2:=⟨_,rfl⟩;have hl:jD x=(b1&&b2):=by unfold jD;rw[hb1,hb2]
 rw[hl];rw[<-e1]at hb1;rw[<-e2]at hb2;have Hb1:=Lh hb1;have Hb2:=Lh hb2;have R1:=Lh r1;have R2:=Lh r2;clear e1 e2 hb1 hb2 hl r1 r2;generalize x.l.fn=f1 at*;generalize x.l.args=ys1 at*;generalize x.r.fn=f2 at*;generalize x.r.args=ys2 at*;cases b1 with
 | false=>
  go_enter Try.func43,Try.ntmps43;go_wp2_with (
   go_at_call 44
   refine(qD _ _ _ B _ (by omega) (R1.out.low (aD w _) hB) (by simp;omega)).mono ?_;rintro e w1 ⟨rfl,hb3⟩;rw[Hb1.out])
  go_ret;exact⟨rfl,(aD w _).trans (hb3.mono (by simp))⟩
 | true=>
  go_enter Try.func43,Try.ntmps43;go_wp2_with (first
   | (
    go_at_call_of 44 (Value.slice A1 ys1.length c1)
    refine(qD f1 ys1 _ B _ (by omega) (R1.out.low (aD w _) hB) (by simp;omega)).mono ?_;rintro e w1 ⟨rfl,hb3⟩;rw[Hb1.out];have hbx1:=λo=>cell_of_row w1 w.heap.size o _ _ _ ((hb3.block w.heap.size (by simp)).trans (heap_alloc_new w _))
    have Hb3:=Lh hb3;clear hb3)
   | (
    go_at_call_of 44 (Value.slice A2 ys2.length c2)
    refine(qD f2 ys2 _ B _ (by omega) ((R2.out.low (aD w _) hB).low Hb3.out (by simp;omega)) (by have:=Hb3.out.size;simp at this;omega)).mono ?_;rintro e w1 ⟨rfl,hb4⟩;rw[Hb2.out]))
  go_ret;refine⟨?_,(aD w _).trans ((Hb3.out.mono (by simp)).trans (hb4.mono (by have:=Hb3.out.size;simp at this;omega)))⟩;cases b2 <;> rfl
theorem mL (c:Cl)(v:Value)(B:Nat)(w:World)(hz:aR c<=10000000000)(hr:Rd w B (aT c) v)(hB:B<=w.heap.size):
 Calls Try.prog 33 #[v] w (aP (eK c) w):=by
 obtain⟨A,cp,rfl,hc,hn,hm⟩:=Rd.cl_form hr;obtain⟨a,ha⟩:∃a,(List.range c.length).any (sS c)=a:=⟨_,rfl⟩;have hf:eK c=(decide (c.length<=16)&& !a):=by unfold eK;rw[ha]
 rw[hf];have hclo:∀k (hk:k<c.length) w1 ev,Below w.heap.size w w1->LtV w1 B c[k] ev->Calls Try.prog 43 (#[ev]++ #[]) w1 (aP (sS c k) w1):=by
  intro k hk w1 ev hb hv;have:sS c k= !jD c[k]:=by unfold sS;rw[List.getElem?_eq_getElem hk];rfl
  rw[this];exact aC4 _ _ B _ hv (Nat.le_trans (iO hk) hz) (by have:=hb.size;omega)
 have Hclo:=Lh hclo;have Ha:=Lh ha;have H3:=Lh hr;clear hclo ha hr hf;by_cases h16:c.length<=16
 . rw[decide_eq_true h16];go_enter Try.func33,Try.ntmps33;go_wp2_with (
    go_at_call 42
    refine(wK #[] _ c _ B _ H3.out hB Hclo.out).mono ?_;rintro e w1 ⟨rfl,hb1⟩;rw[Ha.out])
   go_ret;refine⟨?_,hb1⟩;cases a <;> rfl
 rw[decide_eq_false h16];go_enter Try.func33,Try.ntmps33;go_wp2_with fail;go_ret;exact⟨rfl,Below.refl _ _⟩
def aO5 (F:World->Nat->Prop)(w w':World):Prop:=∀k,F w' k->F w k\/w.heap.size<=k
structure StF {σ:Type} (B:Nat)(F:World->Nat->Prop)(I:σ->World->Prop):Prop where
 low:∀s w w',I s w->Below w.heap.size w w'->I s w'/\∀k,F w' k->F w k
 lt:∀s w k,I s w->F w k->k<w.heap.size
 ge:∀s w k,I s w->F w k->B<=k
structure Stp {σ:Type} (F:World->Nat->Prop)(I:σ->World->Prop)(s:σ)(w w':World):Prop where
 st:I s w'
 upd:Upd w w' (F w)
 grow:aO5 F w w'
def StB {σ:Type} (F:World->Nat->Prop)(I:σ->World->Prop)(r:Bool × σ)(w:World)(e:Ending)(w':World):Prop:=e=.returned (.bool r.1)/\Stp F I r.2 w w'
section
variable {σ:Type} {B:Nat} {F:World->Nat->Prop} {I:σ->World->Prop} {s s':σ} {a b c:World}
theorem Stp.refl (h:I s a):Stp F I s a a:=⟨h,Upd.refl _ _,λ_ h=>.inl h⟩
theorem Stp.trans (h:Stp F I s a b)(k:Stp F I s' b c):Stp F I s' a c:=
 ⟨
  k.st,h.upd.trans k.upd h.grow,λi hi=>by
  rcases k.grow i hi with h1 | h1
  . exact h.grow i h1
  exact .inr (Nat.le_trans h.upd.size h1)⟩
theorem StF.step (hF:StF B F I)(h:I s a)(hb:Below a.heap.size a b):Stp F I s a b:=
 ⟨(hF.low s a b h hb).1,Upd.low hb _,λk hk=>.inl ((hF.low s a b h hb).2 k hk)⟩
theorem Stp.keep {k:Nat} (h:Stp F I s a b)(hk:k<a.heap.size)(hn:¬F a k):b.heap[k]? =a.heap[k]? /\¬F b k:=
 ⟨
  h.upd.block k hk hn,λhf=>by
  rcases h.grow k hf with h1 | h1
  . exact hn h1
  omega⟩
theorem StF.new (hF:StF B F I)(h:I s a):¬F a a.heap.size:=λhf=>absurd (hF.lt s a _ h hf) (by omega)
theorem Stp.rd {t:Tr} {v:Value} (hF:StF B F I)(h0:I s' a)(h:Stp F I s a b)(hr:Rd a B t v)(hB:B<=a.heap.size):Rd b B t v:=h.upd.keepRd hr hB (λk hk=>hF.ge s' a k h0 hk)
end
def TmV (w:World)(B:Nat)(t:Tm)(v:Value):Prop:=∃A c,v=.agg #[.int .i64 t.fn,.slice A t.args.length c]/\Rd w B (.sl 2 (aH t.args)) (.slice A t.args.length c)
def eI {σ α:Type} (p:σ->α->α->Bool × σ):σ->List α->List α->Bool × σ
 | s,[],[]=>(true,s)
 | s,x::xs,y::ys=>if (p s x y).1=true then eI p (p s x y).2 xs ys else(false,(p s x y).2)
 | s,_,_=>(false,s)
def cM {σ α:Type} (p:σ->α->α->Bool × σ)(s:σ)(xs ys:List α):Bool × σ:=if xs.length=ys.length then eI p s xs ys else(false,s)
theorem pF {σ α:Type} {p:σ->α->α->Bool × σ} {s:σ} {xs ys:List α} {k:Nat} (h:k<xs.length)(h':k<ys.length):
 eI p s (xs.drop k) (ys.drop k)=if (p s xs[k] ys[k]).1=true then eI p (p s xs[k] ys[k]).2 (xs.drop (k+1)) (ys.drop (k+1))else(false,(p s xs[k] ys[k]).2):=by
 rw[List.drop_eq_getElem_cons h,List.drop_eq_getElem_cons h',eI]
theorem mK {σ α:Type} {p:σ->α->α->Bool × σ} {s:σ} {xs ys:List α} {k:Nat} (h:xs.length<=k)(h':ys.length<=k):eI p s (xs.drop k) (ys.drop k)=(true,s):=by
 rw[List.drop_eq_nil_of_le h,List.drop_eq_nil_of_le h',eI]
theorem sH {σ:Type} (B:Nat)(F:World->Nat->Prop)(I:σ->World->Prop)(hF:StF B F I)(bx:Array Value)(p:σ->Tm->Tm->Bool × σ)(xs ys:List Tm)(vx vy:Value)(s:σ)(w:World)
 (hx:Rd w B (.sl 2 (aH xs)) vx) (hy:Rd w B (.sl 2 (aH ys)) vy) (hB:B<=w.heap.size) (hs:I s w)
 (hclo:∀k (hk:k<xs.length) (hk':k<ys.length) s1 w1 e1 e2,w.heap.size<=w1.heap.size->I s1 w1->TmV w1 B xs[k] e1->TmV w1 B ys[k] e2->Calls Try.prog 86 (#[e1,e2]++bx) w1 (StB F I (p s1 xs[k] ys[k]) w1)):
 Calls Try.prog 82 #[vx,vy,.func (.func 86) #[] bx] w (StB F I (cM p s xs ys) w):=by
 obtain⟨Ax,cx,rfl,hcx,hnx,hmx⟩:=hx.tm_form;obtain⟨Ay,cy,rfl,hcy,hny,hmy⟩:=hy.tm_form;have HF:=Lh hF;have HX:=Lh hx;have HY:=Lh hy;have HS:=Lh hs;have Hclo:=Lh hclo;clear hF hx hy hs hclo;by_cases hl:xs.length=ys.length
 . have he:cM p s xs ys=eI p s xs ys:=by unfold cM;rw[if_pos hl]
   obtain⟨r,hr⟩:∃r,eI p s xs ys=r:=⟨_,rfl⟩;rw[he,hr];have HR:=Lh hr;clear hr;have q:(((xs.length:Nat):Int) !=((ys.length:Nat):Int))=false:=by rw[hl];simp
   have Hl:=Lh hl;clear he hl;go_enter Try.func82,Try.ntmps82;go_wp2_with fail;go_loopw [17] (λi wr=>∃(k:Nat) (s1:σ),i=.int .i64 k/\k<=xs.length/\r=eI p s1 (xs.drop k) (ys.drop k)/\Stp F I s1 w wr) (λi _=>xs.length-(intOf i).toNat)
   case atStart=>exact⟨0,s,rfl,Nat.zero_le _,HR.out.symm,Stp.refl HS.out⟩
   obtain⟨k,s1,rfl,hk,hgo,hst⟩:=hrel;have hzr:=hst.upd.size;have Hgo:=Lh hgo;have Hst:=Lh hst;clear hgo hst;by_cases hlt:k<xs.length
   . have hlt2:k<ys.length:=(by have:=Hl.out;omega);have hat:=pF (p:=p) (s:=s1) hlt hlt2;obtain⟨ab1,off1,f1,zs1,A1,c1,rfl,hxk,hb1,k0,k1,hr1⟩:=(Hst.out.rd HF.out HS.out HX.out hB).tm_at hlt;obtain⟨ab2,off2,f2,zs2,A2,c2,rfl,hyk,hb2,l0,l1,hr2⟩:=(Hst.out.rd HF.out HS.out HY.out hB).tm_at hlt2;have hcl:∀w1,Below wr.heap.size wr w1->Calls Try.prog 86 (#[.agg #[.int .i64 f1,.slice A1 zs1.length c1],.agg #[.int .i64 f2,.slice A2 zs2.length c2]]++bx) w1 (StB F I (p s1 xs[k] ys[k]) w1):=by
      intro w1 hb;refine Hclo.out k hlt hlt2 s1 w1 _ _ (Nat.le_trans hzr hb.size) (HF.out.low _ _ _ Hst.out.st hb).1 ?_ ?_
      . rw[hxk];exact⟨A1,c1,rfl,hr1.low hb (by omega)⟩
      rw[hyk];exact⟨A2,c2,rfl,hr2.low hb (by omega)⟩
     have Hcl:=Lh hcl;have Hat:=Lh hat;have hq1:ab1<wr.heap.size:=(by omega);have hq2:ab2<wr.heap.size:=(by omega);clear hcl hxk hyk hr1 hr2 hat;obtain⟨⟨b,s2⟩,hp⟩:∃r,p s1 xs[k] ys[k]=r:=⟨_,rfl⟩;rw[hp]at Hcl Hat;clear hp;cases b with
     | true=>
      go_wp2_with (
       go_at_call 86
       refine(Hcl.out _ ((aD wr _).trans ((aD _ _).mono (by simp)))).mono ?_;rintro e w1 ⟨rfl,hst2⟩;have Hst2:=Lh ((HF.out.step Hst.out.st ((aD wr _).trans ((aD _ _).mono (by simp)))).trans hst2);clear hst2)
      go_roundw
      case rel=>exact⟨k+1,s2,by go_num,by omega,by rw[Hgo.out,Hat.out];simp,Hst.out.trans Hst2.out⟩
      case measure=>simp[intOf];omega
     | false=>
      go_wp2_with (
       go_at_call 86
       refine(Hcl.out _ ((aD wr _).trans ((aD _ _).mono (by simp)))).mono ?_;rintro e w1 ⟨rfl,hst2⟩;have Hst2:=Lh ((HF.out.step Hst.out.st ((aD wr _).trans ((aD _ _).mono (by simp)))).trans hst2);clear hst2)
      go_ret;obtain rfl:r=(false,s2):=by rw[Hgo.out,Hat.out,if_neg (by decide)]
      exact⟨rfl,Hst.out.trans Hst2.out⟩
   have hend:=mK (p:=p) (s:=s1) (xs:=xs) (ys:=ys) (k:=k) (by omega) (by have:=Hl.out;omega);have hres:r=(true,s1):=by rw[Hgo.out,hend]
   have Hres:=Lh hres;clear hend hres;go_wp2_with fail;go_ret;rw[Hres.out];exact⟨rfl,Hst.out⟩
 have he:cM p s xs ys=(false,s):=by unfold cM;rw[if_neg hl]
 rw[he];have q:(((xs.length:Nat):Int) !=((ys.length:Nat):Int))=true:=by rw[bne_iff_ne];omega
 clear he hl;go_enter Try.func82,Try.ntmps82;go_wp2_with fail;go_ret;exact⟨rfl,Stp.refl HS.out⟩
/-! ## same -/
mutual
def dZ:Tm->Tm->Bool
 | .mk f xs,.mk g ys=>decide (f=g)&&decide (xs.length=ys.length)&&jG xs ys
def jG:List Tm->List Tm->Bool
 | x::xs,y::ys=>dZ x y&&jG xs ys
 | _,_=>true
end
def vJ (s:Unit)(x y:Tm):Bool × Unit:=(dZ x y,s)
theorem aA8:∀{xs ys:List Tm},xs.length=ys.length->(eI vJ () xs ys).1=jG xs ys
 | [],[],_=>by simp[eI,jG]
 | x::xs,y::ys,h=>by
  have ih:=aA8 (xs:=xs) (ys:=ys) (by simpa using h);rw[eI,jG];cases hx:dZ x y with
  | true=>simp[vJ,hx,ih]
  | false=>simp[vJ,hx]
 | [],_::_,h=>by simp at h
 | _::_,[],h=>by simp at h
theorem aJ0 (xs ys:List Tm):(cM vJ () xs ys).1=(decide (xs.length=ys.length)&&jG xs ys):=by
 unfold cM;by_cases h:xs.length=ys.length
 . rw[if_pos h,aA8 h,decide_eq_true h];rfl
 rw[if_neg h,decide_eq_false h];rfl
def noF (_:World)(_:Nat):Prop:=False
def aK8 (_:Unit)(_:World):Prop:=True
theorem aN9 (B:Nat):StF B noF aK8:=⟨λ_ _ _ _ _=>⟨trivial,λ_ h=>h⟩,λ_ _ _ _ h=>h.elim,λ_ _ _ _ h=>h.elim⟩
theorem aJ6 {w w':World} (h:Upd w w' (noF w)):Below w.heap.size w w':=h.toLow (Nat.le_refl _) (λ_ h=>h.elim)
theorem eM (d:Nat):∀(f g:Int) (xs ys:List Tm) (vx vy:Value) (B:Nat) (w:World),aI xs<d->Rd w B (.sl 2 (aH xs)) vx->Rd w B (.sl 2 (aH ys)) vy->B<=w.heap.size->
 Calls Try.prog 65 #[.agg #[.int .i64 f,vx],.agg #[.int .i64 g,vy]] w (aP (dZ (.mk f xs) (.mk g ys)) w):=by
 induction d with
 | zero=>intro f g xs ys vx vy B w h;omega
 | succ d ih=>
 intro f g xs ys vx vy B w hd hx hy hB;obtain⟨Ax,cx,rfl,hcx,hnx,hmx⟩:=hx.tm_form;obtain⟨Ay,cy,rfl,hcy,hny,hmy⟩:=hy.tm_form;obtain⟨r,hr⟩:∃r,dZ (.mk f xs) (.mk g ys)=r:=⟨_,rfl⟩;rw[hr];have hclo:∀w0:World,B<=w0.heap.size->∀k (hk:k<xs.length) (hk':k<ys.length) s1 w1 e1 e2,w0.heap.size<=w1.heap.size->aK8 s1 w1->TmV w1 B xs[k] e1->TmV w1 B ys[k] e2->Calls Try.prog 86 (#[e1,e2]++ #[]) w1 (StB noF aK8 (vJ s1 xs[k] ys[k]) w1):=by
  rintro w0 hw0 k hk hk' s1 w1 e1 e2 hw1 _ ⟨A1,c1,rfl,hr1⟩ ⟨A2,c2,rfl,hr2⟩;have h1:=aZ hk;have hfa:=fY xs[k];have hga:=fY ys[k];have hsz:aI xs[k].args<d:=by
   rw[<-hfa]at h1;simp only[aK]at h1;omega
  obtain⟨r,hr⟩:∃r,dZ xs[k] ys[k]=r:=⟨_,rfl⟩;have hp:vJ s1 xs[k] ys[k]=(r,s1):=by unfold vJ;rw[hr]
  rw[hp];rw[<-hfa,<-hga]at hr;generalize xs[k].fn=f1 at*;generalize xs[k].args=zs1 at*;generalize ys[k].fn=f2 at*;generalize ys[k].args=zs2 at*;have Hr:=Lh hr;have R1:=Lh hr1;have R2:=Lh hr2;have Hih:=Lh ih;clear hr hr1 hr2 ih hfa hga h1 hp;go_enter Try.func86,Try.ntmps86;go_wp2_with (
   go_at_call 65
   refine(Hih.out f1 f2 zs1 zs2 _ _ B _ hsz (R1.out.low ((aD w1 _).trans ((aD _ _).mono (by simp))) (by omega)) (R2.out.low ((aD w1 _).trans ((aD _ _).mono (by simp))) (by omega)) (by simp;omega)).mono ?_;rintro e w2 ⟨rfl,hb2⟩;rw[Hr.out])
  go_ret;refine⟨rfl,trivial,?_,λ_ h=>h.elim⟩;exact Upd.low (((aD w1 _).trans ((aD _ _).mono (by simp))).trans (hb2.mono (by simp;omega))) _
 have Hclo:=Lh hclo;have HX:=Lh hx;have HY:=Lh hy;have HR:=Lh hr;clear hclo hx hy hr ih;by_cases hfg:f=g
 . subst hfg;obtain⟨⟨b,u⟩,he⟩:∃r,cM vJ () xs ys=r:=⟨_,rfl⟩;have hb:r=b:=by
    have h2:b=(decide (xs.length=ys.length)&&jG xs ys):=by
     have:=aJ0 xs ys;rw[he]at this;exact this
    rw[<-HR.out,h2,dZ];simp
   subst hb;have HE:=Lh he;clear he HR;go_enter Try.func65,Try.ntmps65;go_wp2_with (
    go_at_call 82
    refine(sH B noF aK8 (aN9 B) #[] vJ xs ys _ _ () _ (HX.out.low ((aD w _).trans ((aD _ _).mono (by simp))) (by omega)) (HY.out.low ((aD w _).trans ((aD _ _).mono (by simp))) (by omega)) (by simp;omega) trivial (Hclo.out _ (by simp;omega))).mono ?_;rintro e w2 ⟨rfl,hst2⟩;rw[HE.out])
   go_ret;exact⟨rfl,((aD w _).trans ((aD _ _).mono (by simp))).trans ((aJ6 hst2.upd).mono (by simp;omega))⟩
 have hb:r=false:=by rw[<-HR.out,dZ,decide_eq_false hfg];rfl
 subst hb;have q:(f==g)=false:=by rw[beq_eq_false_iff_ne];exact hfg
 clear hfg HR;go_enter Try.func65,Try.ntmps65;go_wp2_with fail;go_ret;exact⟨rfl,(aD w _).trans ((aD _ _).mono (by simp))⟩
section
variable {K:Type} [DecidableEq K]
def bD (x:K):List (K × Value)->Nat->Option (Nat × Value)
 | [],_=>none
 | p::r,i=>if x=p.1 then some (i,p.2)else bD x r (i+1)
structure KeyTy (P:Program)(k:TypeId)(enc:K->Value):Prop where
 check:∀(em:Bool) (w:World) (x:K),(Instr.checkKey em 10000 k (enc x)).run P w=.ok () w
 find:∀(w:World) (x:K) (kv:List (K × Value)) (es:List MapEntry),es.map (λe=>(e.key,e.val))=kv.map (λp=>(enc p.1,p.2))->(Instr.findKey k (enc x) es).run P w=.ok (bD x kv 0) w
 stays:∀(w:World) (x:K),(Instr.keyThatStays (enc x) (enc x)).run P w=.ok (enc x) w
theorem mN {d:TypeDesc} {enc:K->Value} (hn:∀x y,Instr.sameNow d (enc x) (enc y)=some (decide (x=y)))(x:K):∀(kv:List (K × Value)) (es:List MapEntry) (i:Nat),es.map (λe=>(e.key,e.val))=kv.map (λp=>(enc p.1,p.2))->
 Instr.findNow d (enc x) es i=some (bD x kv i)
 | [],es,i,h=>by
  have:es=[]:=by simpa using h
  subst this;simp[Instr.findNow,bD]
 | p::kv,[],i,h=>by simp at h
 | p::kv,e::es,i,h=>by
  simp only[List.map_cons,List.cons.injEq,Prod.mk.injEq]at h;obtain⟨⟨h1,h2⟩,h3⟩:=h;simp only[Instr.findNow,h1,hn,bD];by_cases hx:x=p.1
  . simp[hx,h2]
  simp only[hx,decide_false,if_false];exact mN hn x kv es (i+1) h3
theorem aD1 {P:Program} {k:TypeId} {enc:K->Value} {d:TypeDesc} (hd:P.underlying k=some d)(hn:∀x y,Instr.sameNow d (enc x) (enc y)=some (decide (x=y)))
 (hc:∀(em:Bool) (w:World) (x:K),(Instr.checkKey em 10000 k (enc x)).run P w=.ok () w) (hs:∀x,Instr.sameBits 10000 (enc x) (enc x)=true):KeyTy P k enc where
 check:=hc
 find w x kv es h:=by
  simp only[Instr.findKey,Sem.run_bind,run_underlying hd,Result.andThen_ok];rw[mN hn x kv es 0 h];simp
 stays w x:=by simp[Instr.keyThatStays,hs]
def bK (w:World)(g:Nat)(enc:K->Value)(f:K->Option Value):Prop:=
 ∃(es:Array MapEntry) (clock:Nat) (kv:List (K × Value)),w.heap[g]? =some (.map es clock)/\es.toList.map (λe=>(e.key,e.val))=kv.map (λp=>(enc p.1,p.2))/\
  (∀x,f x=(bD x kv 0).map (·.2))/\(∀e∈es.toList,e.born<clock)/\(es.toList.map (·.born)).Nodup/\(kv.map (·.1)).Nodup
variable {w w':World} {g:Nat} {enc:K->Value} {f:K->Option Value}
theorem bK.lt (h:bK w g enc f):g<w.heap.size:=by obtain⟨es,c,kv,hg,_⟩:=h;exact(Array.getElem?_eq_some_iff.1 hg).1
theorem bK.made (w:World)(enc:K->Value):bK (w.alloc (.map #[] 0)) w.heap.size enc (λ_=>none):=
 ⟨#[],0,[],(MapKept.heap_alloc w _).1,rfl,λ_=>rfl,by simp,by simp,by simp⟩
theorem bK.upd {F:Nat->Prop} (h:bK w g enc f)(hu:Upd w w' F)(hF:¬F g):bK w' g enc f:=by
 have hl:=h.lt;obtain⟨es,c,kv,hg,h1,h2⟩:=h;exact⟨es,c,kv,(hu.block g hl hF).trans hg,h1,h2⟩
theorem bK.low (h:bK w g enc f)(hb:Below w.heap.size w w'):bK w' g enc f:=h.upd (Upd.low hb (λ_=>False)) (by simp)
theorem bK.alloc (h:bK w g enc f)(o:Obj):bK (w.alloc o) g enc f:=h.low (aD w o)
theorem bK.drewN (h:bK w g enc f)(n:Nat):bK (w.drewN n) g enc f:=h
theorem bK.congr {f':K->Option Value} (h:bK w g enc f)(hf:∀x,f' x=f x):bK w g enc f':=by
 obtain⟨es,c,kv,hg,h1,h2⟩:=h;exact⟨es,c,kv,hg,h1,λx=>(hf x).trans (h2.1 x),h2.2⟩
theorem fK (x:K):∀(kv:List (K × Value)) (i j:Nat) (v:Value),bD x kv i=some (j,v)->i<=j/\j<i+kv.length/\kv[j-i]? =some (x,v)
 | [],i,j,v,h=>by simp[bD]at h
 | p::kv,i,j,v,h=>by
  unfold bD at h;split at h
  . rename_i hx
    simp only[Option.some.injEq,Prod.mk.injEq]at h;obtain⟨rfl,rfl⟩:=h;refine⟨Nat.le_refl _,by simp,?_⟩;simp[hx]
  obtain⟨h1,h2,h3⟩:=fK x kv (i+1) j v h;refine⟨by omega,by simp;omega,?_⟩;have:j-i=(j-(i+1))+1:=by omega
  rw[this,List.getElem?_cons_succ];exact h3
theorem oR {x:K}:∀{kv:List (K × Value)} {i:Nat},bD x kv i=none->∀p∈kv,p.1≠x
 | [],i,h,p,hp=>by cases hp
 | q::kv,i,h,p,hp=>by
  unfold bD at h;split at h
  . cases h
  rename_i hne
  rcases List.mem_cons.1 hp with rfl | hp
  . exact λe=>hne e.symm
  exact oR h p hp
theorem gC (x:K):∀(kv:List (K × Value)) (i:Nat),(bD x kv i).map (·.2)=(bD x kv 0).map (·.2)
 | [],i=>rfl
 | p::kv,i=>by
  unfold bD;split
  . rfl
  rw[gC x kv (i+1),gC x kv (0+1)]
theorem kZ (x:K)(p:K × Value):∀(kv:List (K × Value)) (i:Nat),((bD x (kv++[p]) i).map (·.2))=(match (bD x kv i).map (·.2)with | some v=>some v | none=>if x=p.1 then some p.2 else none)
 | [],i=>by simp only[List.nil_append,bD];split <;> simp_all
 | q::kv,i=>by
  simp only[List.cons_append,bD];split
  . rfl
  exact kZ x p kv (i+1)
theorem qB (x y:K)(v:Value):∀(kv:List (K × Value)) (i j:Nat) (u:Value),bD y kv i=some (j,u)->
 (bD x (kv.set (j-i) (y,v)) i).map (·.2)=if x=y then some v else(bD x kv i).map (·.2)
 | [],i,j,u,h=>by simp[bD]at h
 | p::kv,i,j,u,h=>by
  unfold bD at h;split at h
  . rename_i hy
    simp only[Option.some.injEq,Prod.mk.injEq]at h;obtain⟨rfl,rfl⟩:=h;simp only[Nat.sub_self,List.set_cons_zero,bD];by_cases hx:x=y
    . simp[hx]
    have:¬x=p.1:=λe=>hx (e.trans hy.symm)
    simp[hx,this]
  rename_i hy
  obtain⟨h1,_,_⟩:=fK y kv (i+1) j u h;have hj:j-i=(j-(i+1))+1:=by omega
  rw[hj,List.set_cons_succ];have ih:=qB x y v kv (i+1) j u h;simp only[bD];split
  . rename_i hx
    have:¬x=y:=λe=>hy (e.symm.trans hx)
    simp[this]
  exact ih
variable {P:Program} {t k e:TypeId}
theorem bK.lookup (h:bK w g enc f)(hT:KeyTy P k enc)(ht:P.underlying t=some (.map k e)) {z:Value} (hz:(zeroValue e).run P w=.ok z w)(x:K):
 (Instr.lookup t (.map (some g)) (enc x) false).run P w=.ok ((f x).getD z) w:=by
 obtain⟨es,c,kv,hg,h1,h2,-⟩:=h;rw[h2 x];simp only[Instr.lookup,Sem.run_bind,run_underlying ht,Result.andThen_ok,MapKept.run_getObj_map hg,Sem.run_pure,hT.check,hT.find w x kv es.toList h1];cases hf:bD x kv 0 with
 | none=>simp[hz]
 | some p=>simp
theorem bK.lookup_ok (h:bK w g enc f)(hT:KeyTy P k enc)(ht:P.underlying t=some (.map k e)) {z:Value} (hz:(zeroValue e).run P w=.ok z w)(x:K):
 (Instr.lookup t (.map (some g)) (enc x) true).run P w=.ok (.tuple #[(f x).getD z,.bool (f x).isSome]) w:=by
 obtain⟨es,c,kv,hg,h1,h2,-⟩:=h;rw[h2 x];simp only[Instr.lookup,Sem.run_bind,run_underlying ht,Result.andThen_ok,MapKept.run_getObj_map hg,Sem.run_pure,hT.check,hT.find w x kv es.toList h1];cases hf:bD x kv 0 with
 | none=>simp[hz]
 | some p=>simp
theorem jL (w:World)(g:Nat)(es:Array MapEntry)(c:Nat):Upd w {w with heap:=w.heap.setIfInBounds g (.map es c)} (λk=>k=g):=
 ⟨rfl,rfl,rfl,by simp,λk _ hk=>by simp only[Array.getElem?_setIfInBounds];rw[if_neg (λe=>hk e.symm)]⟩
theorem bK.update (h:bK w g enc f)(hT:KeyTy P k enc)(ht:P.underlying t=some (.map k e))(x:K)(v:Value):
 ∃w',(Instr.mapUpdate t (.map (some g)) (enc x) v).run P w=.ok () w'/\bK w' g enc (λy=>if y=x then some v else f y)/\Upd w w' (λk=>k=g):=by
 have hlt:=h.lt;obtain⟨es,c,kv,hg,h1,h2,h3,h4,h5⟩:=h;have hgs:∀(es':Array MapEntry) (c':Nat),({w with heap:=w.heap.setIfInBounds g (.map es' c')}:World).heap[g]? =some (.map es' c'):=by intro es' c';simp[hlt]
 cases hf:bD x kv 0 with
 | none=>
  refine⟨_,?_,⟨es.push {key:=enc x,val:=v,born:=c},c+1,kv++[(x,v)],hgs _ _,?_,?_,?_,?_,?_⟩,jL w g _ _⟩
  . simp only[Instr.mapUpdate,Sem.run_bind,run_underlying ht,Result.andThen_ok,MapKept.run_getObj_map hg,hT.check,hT.find w x kv es.toList h1,hf];exact MapKept.run_setObj_map _ hg
  . simp[h1]
  . intro y;show (if y=x then some v else f y)=_
    rw[kZ,h2 y];by_cases hy:y=x
    . subst hy;rw[hf];simp
    simp only[hy,if_false];cases (bD y kv 0).map (·.2) <;> rfl
  . intro e he;simp only[Array.toList_push,List.mem_append,List.mem_singleton]at he;rcases he with he | rfl
    . have:=h3 e he;omega
    simp
  . rw[Array.toList_push,List.map_append,List.map_cons,List.map_nil,List.nodup_append];refine⟨h4,by simp,λa ha b hb=>?_⟩;obtain⟨e,he,rfl⟩:=List.mem_map.1 ha;have:=h3 e he;simp at hb
    omega
  rw[List.map_append,List.map_cons,List.map_nil,List.nodup_append];refine⟨h5,by simp,λa ha b hb=>?_⟩;simp at hb
  rintro rfl;obtain⟨q,hq,e⟩:=List.mem_map.1 ha;rw[hb]at e;exact oR hf q hq e
 | some p=>
  obtain⟨j,u⟩:=p;obtain⟨_,hj,hkv⟩:=fK x kv 0 j u hf;simp only[Nat.zero_add,Nat.sub_zero]at hj hkv;have hlen:es.size=kv.length:=by have:=congrArg List.length h1;simpa using this
  have hje:j<es.size:=by omega
  have hkey:es[j].key=enc x:=by
   have:=congrArg (λl=>l[j]?) h1;simp only[List.getElem?_map,Array.getElem?_toList,hkv,Array.getElem?_eq_getElem hje,Option.map_some,Option.some.injEq,Prod.mk.injEq]at this;exact this.1
  refine⟨_,?_,⟨es.modify j (λe=>{e with key:=enc x,val:=v}),c,kv.set j (x,v),hgs _ _,?_,?_,?_,?_,?_⟩,jL w g _ _⟩
  . simp only[Instr.mapUpdate,Sem.run_bind,run_underlying ht,Result.andThen_ok,MapKept.run_getObj_map hg,hT.check,hT.find w x kv es.toList h1,hf,Array.getElem?_eq_getElem hje,Option.map_some,Option.getD_some,hkey,hT.stays];exact MapKept.run_setObj_map _ hg
  . apply List.ext_getElem?
    intro i;have hi:=congrArg (λl=>l[i]?) h1;simp only[List.getElem?_map,Array.getElem?_toList]at hi ⊢;rw[Array.getElem?_modify,List.getElem?_set];by_cases hij:j=i
    . subst hij;simp[hje,hj]
    simp[hij,hi]
  . intro y;show (if y=x then some v else f y)=_
    have:=qB y x v kv 0 j u hf;rw[Nat.sub_zero]at this;rw[this,h2 y]
  . intro e he;obtain⟨i,hi,rfl⟩:=List.mem_iff_getElem.1 he;have hi':i<es.size:=(by simpa using hi);have:=h3 es[i] (by simp);simp only[Array.getElem_toList,Array.getElem_modify];split <;> simpa using this
  . have:(es.modify j (λe=>{e with key:=enc x,val:=v})).toList.map (·.born)=es.toList.map (·.born):=by
     apply List.ext_getElem?
     intro i;simp only[List.getElem?_map,Array.getElem?_toList,Array.getElem?_modify];by_cases hij:j=i
     . subst hij;simp[Array.getElem?_eq_getElem hje]
     simp[hij]
    rw[this];exact h4
  have:(kv.set j (x,v)).map (·.1)=kv.map (·.1):=by
   apply List.ext_getElem?
   intro i;simp only[List.getElem?_map,List.getElem?_set];by_cases hij:j=i
   . subst hij;rw[List.getElem?_eq_getElem hj]at hkv;injection hkv with hkv
     simp[hj,hkv]
   simp[hij]
  rw[this];exact h5
theorem cZ {ops:Array Oper} {rest:List Oper} {o:Oper} {a:Act} {Q:Exit->Act->World->Prop} (hgd:o.guard=none)(mo ko vo:Operand)
 (ho:o.op=.mapUpdate t mo ko vo) (hT:KeyTy P k enc) (ht:P.underlying t=some (.map k e)) (hm:a.eval mo=.map (some g)) (x:K) (hk:a.eval ko=enc x) (v:Value) (hv:a.eval vo=v) (h:bK w g enc f)
 (hK:∀w',bK w' g enc (λy=>if y=x then some v else f y)->Upd w w' (λk=>k=g)->wpList P ops Q rest (a.put o.dst undef) w'):wpList P ops Q (o::rest) a w:=by
 refine wpList_plain hgd λK hKK=>?_
 obtain⟨w',hr,hf',hu⟩:=h.update hT ht x v;unfold Oper.wp execOp;simp only[ho,Sem.run_bind,hm,hk,hv,hr,Result.andThen_ok,Sem.run_pure];exact hKK _ _ (hK w' hf' hu)
end
def cE (n:Int):Value:=.int .i64 n
theorem fT:KeyTy Try.prog 3 cE:=by
 refine aD1 (d:=.int .i64) (by kernel_rfl) ?_ ?_ ?_
 . intro x y;simp only[cE,Instr.sameNow,if_true,Option.some.injEq];by_cases h:x=y
   . subst h;simp
   simp[h]
 . intro em w x;exact MapKept.run_checkKey (P:=Try.prog) (w:=w) (kt:=3) (k:=.int .i64 x) Try.underlying3 (by simp[MapKept.IsKey]) em 9999
 intro x;obtain⟨n,hn⟩:∃n,10000=n+2:=⟨9998,rfl⟩;rw[hn];simp[cE,Instr.sameBits]
theorem aK2 (w:World):(zeroValue 3).run Try.prog w=.ok (.int .i64 0) w:=by kernel_rfl
theorem fD {K:Type} [DecidableEq K] {P:Program} {t k e:TypeId} {g:Nat} {enc:K->Value} {f:K->Option Value} {w:World} {o:Oper} {a:Act} {KK:Act->World->Prop} {Q:Exit->Act->World->Prop} (mo ko vo:Operand)
 (ho:o.op=.mapUpdate t mo ko vo) (hT:KeyTy P k enc) (ht:P.underlying t=some (.map k e)) (hm:a.eval mo=.map (some g)) (x:K) (hk:a.eval ko=enc x) (v:Value) (hv:a.eval vo=v) (h:bK w g enc f)
 (hK:∀w',bK w' g enc (λy=>if y=x then some v else f y)->Upd w w' (λk=>k=g)->KK (a.put o.dst undef) w'):o.wp P a w KK Q:=by
 obtain⟨w',hr,hf',hu⟩:=h.update hT ht x v;unfold Oper.wp execOp;simp only[ho,Sem.run_bind,hm,hk,hv,hr,Result.andThen_ok,Sem.run_pure];exact hK w' hf' hu
section
variable {P:Program} {ops:Array Oper} {Q:Exit->Act->World->Prop}
theorem aB8 {l:List Bool} {i:Nat} (hi:i<l.length)(h:l[i]=false):(l.set i true).countP (λb=> !b)+1=l.countP (λb=> !b):=by
 induction l generalizing i with
 | nil=>simp at hi
 | cons b l ih=>
  cases i with
  | zero=>
   simp only[List.getElem_cons_zero]at h;subst h;simp
  | succ i=>
   simp only[List.getElem_cons_succ]at h;have:=ih (i:=i) (by simpa using hi) h;simp only[List.set_cons_succ,List.countP_cons];omega
structure RegInv (V:Nat->Value->World->Prop)(D:Nat->Nat)(n:Nat)(T:Array Value)(ds:List Deferred)(W:World)(aA:Array Bool)(a:Act)(w:World):Prop where
 sz:a.tmps.size=T.size
 df:a.defers=ds
 bel:Below W.heap.size W w
 fix:∀s,(∀k,k<n->D k≠s)->a.tmps.getD s undef=T.getD s undef
 done:∀k,k<n->aA.getD k false=true->V k (a.tmps.getD (D k) undef) w
theorem RegInv.put {V:Nat->Value->World->Prop} {D:Nat->Nat} {n i:Nat} {T:Array Value} {ds:List Deferred} {W w w':World} {aA:Array Bool} {a:Act} {v:Value} (h:RegInv V D n T ds W aA a w)
 (hV:∀k v,Below w.heap.size w w'->V k v w->V k v w') (hb:Below w.heap.size w w') (hi:i<n) (hd:∀k k',k<n->k'<n->D k=D k'->k=k') (hlt:D i<T.size) (hl:i<aA.size) (hv:V i v w'):
 RegInv V D n T ds W (aA.setIfInBounds i true) (a.put (some (D i)) v) w':=by
 have hg:∀s,(a.put (some (D i)) v).tmps.getD s undef=if s=D i then v else a.tmps.getD s undef:=by
  intro s;have hsz:=h.sz;simp only[Act.put];by_cases hs:s=D i
  . subst hs;simp[hsz,hlt]
  rw[if_neg hs];simp[Array.getElem?_setIfInBounds_ne (Ne.symm hs)]
 refine⟨by simp[Act.put,h.sz],by simp[Act.put,h.df],h.bel.trans (hb.mono h.bel.size),λs hs=>?_,λk hk hlk=>?_⟩
 . rw[hg,if_neg (λe=>hs i hi e.symm)];exact h.fix s hs
 rw[hg];by_cases hki:k=i
 . subst hki;rw[if_pos rfl];exact hv
 rw[if_neg (λe=>hki (hd k i hk hi e))];refine hV k _ hb (h.done k hk ?_);rw[getD_set_ne false (Ne.symm hki)]at hlk;exact hlk
theorem aF {i:Nat} {o:Oper} {K:Act->World->Prop} {a:Act} {w:World} (hi:ops[i]? =some o)(hg:o.guard=none)(h:o.wp P a w K Q):wpOp P ops Q i K a w:=by
 unfold wpOp;simp only[hi,Region.wanted,hg,if_true];exact .inl h
theorem aE {o:Oper} {K:Act->World->Prop} {a:Act} {w w':World} {v:Value} (h:(execOp a.eval o).run P w=.ok (.value v) w')(hk:K (a.put o.dst v) w'):o.wp P a w K Q:=by
 unfold Oper.wp;rw[h];exact hk
theorem aG {o:Oper} {K:Act->World->Prop} {a:Act} {w w':World} {f:FuncId} {args:Array Value} {R:Ending->World->Prop} (h:(execOp a.eval o).run P w=.ok (.enter f args) w')(hc:Calls P f args w' R)
 (hk:∀e w'',R e w''->∃v,e=.returned v/\K (a.put o.dst v) w''):o.wp P a w K Q:=by
 unfold Oper.wp;rw[h];refine Calls.mono hc λe w'' hr=>?_
 obtain⟨v,rfl,h⟩:=hk e w'' hr;exact h
end
theorem aI8 {w:World} {B b size:Nat} {cs:Array Value} {t:TypeId} {fr:Nat × Nat} {rows:List (List Tr)} (hb:w.heap[b]? =some (.cells cs t fr))(hB:b<B)(hl:∀r∈rows,r.length=size)(hn:rows.length<=1000000)
 (us:Nat->Nat->Value) (hc:∀k j,k<rows.length->j<size->cs[k*size+j]? =some (us k j)) (hr:∀k (h:k<rows.length) j (h':j<rows[k].length),Rd w B rows[k][j] (us k j)):
 Rd w B (.sl size rows) (.slice (some ⟨b,0,none⟩) rows.length rows.length):=
 Rd.row size b 0 rows.length rows us hl (Nat.le_refl _) (by omega) (by unfold maxLen;omega) hB
  (λk j hk hj=>by
   have:=hc k j hk hj;unfold World.cell?;rw[hb];simpa using this) hr
section
variable {P:Program} {ops:Array Oper} {Q:Exit->Act->World->Prop}
theorem oP {aA:Array Bool} (hs:∀(i:Nat) (o:Oper),ops[i]? =some o->∀e∈o.after,Region.binds .any e=true->e.on<i)(hz:aA.size=ops.size)(hr:Region.ready .any ops aA=[]):∀i,i<ops.size->aA.getD i false=true:=by
 intro i;induction i using Nat.strongRecOn with
 | ind i ih=>
  intro hi;cases hb:aA.getD i false with
  | true=>rfl
  | false=>
   exfalso
   have:i∈Region.ready .any ops aA:=by
    refine mem_ready.2 ⟨?_,ops[i],Array.getElem?_eq_getElem hi,λe he hbi=>?_⟩
    . have hl:i<aA.size:=(by omega);simp[hl]at hb ⊢
      exact hb
    have h1:=hs i ops[i] (Array.getElem?_eq_getElem hi) e he hbi;exact ih e.on h1 (by omega)
   rw[hr]at this;cases this
theorem zQ (I:Array Bool->Act->World->Prop)(hs:∀(i:Nat) (o:Oper),ops[i]? =some o->∀e∈o.after,Region.binds .any e=true->e.on<i)
 (step:∀aA a w i o,aA.size=ops.size->I aA a w->ops[i]? =some o->aA.getD i false=false->(∀e∈o.after,Region.binds .any e=true->aA.getD e.on false=true)->wpOp P ops Q i (λa' w'=>I (aA.setIfInBounds i true) a' w') a w)
 (fin:∀aA a w,(∀i,i<ops.size->aA.getD i false=true)->I aA a w->Q .normal a w):
 ∀fuel aA a w,aA.size=ops.size->aA.toList.countP (λb=> !b)<=fuel->I aA a w->wpAny P .any ops Q fuel aA a w:=by
 intro fuel;induction fuel with
 | zero=>
  intro aA a w hz hc hI;have hr:Region.ready .any ops aA=[]:=by
   rw[List.eq_nil_iff_forall_not_mem];intro j hj;obtain⟨h1,o,ho,_⟩:=mem_ready.1 hj;have hlt:j<aA.size:=by rw[hz];exact(Array.getElem?_eq_some_iff.1 ho).1
   have hc0:aA.toList.countP (λb=> !b)=0:=by omega
   rw[List.countP_eq_zero]at hc0;have:=hc0 aA[j] (by simp);simp[hlt]at h1
   simp[h1]at this
  exact⟨hr,fin aA a w (oP hs hz hr) hI⟩
 | succ fuel ih=>
  intro aA a w hz hc hI;refine⟨λhr=>fin aA a w (oP hs hz hr) hI,λi hi=>?_⟩;obtain⟨h1,o,ho,hd⟩:=mem_ready.1 hi;have hlt:i<aA.size:=by rw[hz];exact(Array.getElem?_eq_some_iff.1 ho).1
  refine wpOp_mono (λa' w' h=>ih _ a' w' (by simpa using hz) ?_ h) (step aA a w i o hz hI ho (by simp[hlt]at h1 ⊢;exact h1) hd);have:=aB8 (l:=aA.toList) (i:=i) (by simpa using hlt) (by simp[hlt]at h1;simpa using h1);rw[Array.toList_setIfInBounds];omega
structure RegI (ops:Array Oper)(V:Nat->Value->World->Prop)(D:Nat->Nat)(T:Array Value)(ds:List Deferred)(W:World)(aA:Array Bool)(a:Act)(w:World):Prop where
 sz:a.tmps.size=T.size
 df:a.defers=ds
 bel:Below W.heap.size W w
 fix:∀s,(∀k,k<ops.size->D k≠s)->a.tmps.getD s undef=T.getD s undef
 old:∀k,k<ops.size->aA.getD k false=false->a.tmps.getD (D k) undef=T.getD (D k) undef
 done:∀k,k<ops.size->aA.getD k false=true->V k (a.tmps.getD (D k) undef) w
 cl:∀k o,ops[k]? =some o->aA.getD k false=true->∀e∈o.after,Region.binds .any e=true->aA.getD e.on false=true
theorem RegI.before {V:Nat->Value->World->Prop} {D:Nat->Nat} {T:Array Value} {ds:List Deferred} {W w:World} {aA:Array Bool} {a:Act} (h:RegI ops V D T ds W aA a w) {i k:Nat} {o:Oper}
 (hk:ops[k]? =some o) (he:∃e∈o.after,e.on=i/\Region.binds .any e=true) (hl:aA.getD i false=false):a.tmps.getD (D k) undef=T.getD (D k) undef:=by
 refine h.old k (Array.getElem?_eq_some_iff.1 hk).1 ?_;cases hb:aA.getD k false with
 | false=>rfl
 | true=>
  obtain⟨e,he1,rfl,he3⟩:=he;rw[h.cl k o hk hb e he1 he3]at hl;cases hl
theorem kD {a:Act} {d s:Nat} {v:Value} (hd:d<a.tmps.size):(a.put (some d) v).tmps.getD s undef=if s=d then v else a.tmps.getD s undef:=by
 simp only[Act.put];by_cases hs:s=d
 . subst hs;simp[hd]
 rw[if_neg hs];simp[Array.getElem?_setIfInBounds_ne (Ne.symm hs)]
theorem wO {a b:Array Value} (hs:a.size=b.size)(h:∀i,a.getD i undef=b.getD i undef):a=b:=by
 refine Array.ext hs λi h1 h2=>?_
 have:=h i;simpa [h1,h2]using this
end
theorem gD {a:Array Value} {s:Nat} {v:Value} (h:a.getD s undef=v):(a[s]?).getD undef=v:=by simpa using h
theorem lt6 {i:Nat} (h:i<6):i=0\/i=1\/i=2\/i=3\/i=4\/i=5:=by omega
theorem lt8 {i:Nat} (h:i<8):i=0\/i=1\/i=2\/i=3\/i=4\/i=5\/i=6\/i=7:=by omega
theorem lt9 {i:Nat} (h:i<9):i=0\/i=1\/i=2\/i=3\/i=4\/i=5\/i=6\/i=7\/i=8:=by omega
theorem wW {i:Nat} (h:i<14):i=0\/i=1\/i=2\/i=3\/i=4\/i=5\/i=6\/i=7\/i=8\/i=9\/i=10\/i=11\/i=12\/i=13:=by omega
theorem lT {i:Nat} (h:i<16):i=0\/i=1\/i=2\/i=3\/i=4\/i=5\/i=6\/i=7\/i=8\/i=9\/i=10\/i=11\/i=12\/i=13\/i=14\/i=15:=by omega
theorem aH5 {i:Nat} (h:i<18):i=0\/i=1\/i=2\/i=3\/i=4\/i=5\/i=6\/i=7\/i=8\/i=9\/i=10\/i=11\/i=12\/i=13\/i=14\/i=15\/i=16\/i=17:=by omega
theorem sE {i:Nat} (h:i<19):i=0\/i=1\/i=2\/i=3\/i=4\/i=5\/i=6\/i=7\/i=8\/i=9\/i=10\/i=11\/i=12\/i=13\/i=14\/i=15\/i=16\/i=17\/i=18:=by omega
section
variable {P:Program} {ops:Array Oper} {Q:Exit->Act->World->Prop}
structure RegG (ops:Array Oper)(V:Nat->Value->Prop)(D:Nat->Option Nat)(T:Array Value)(ds:List Deferred)(aA:Array Bool)(a:Act):Prop where
 sz:a.tmps.size=T.size
 df:a.defers=ds
 fix:∀s,(∀k,k<ops.size->D k≠some s)->a.tmps.getD s undef=T.getD s undef
 old:∀k s,k<ops.size->D k=some s->aA.getD k false=false->a.tmps.getD s undef=T.getD s undef
 done:∀k s,k<ops.size->D k=some s->aA.getD k false=true->V k (a.tmps.getD s undef)
 cl:∀k o,ops[k]? =some o->aA.getD k false=true->∀e∈o.after,Region.binds .any e=true->aA.getD e.on false=true
theorem RegG.before {V:Nat->Value->Prop} {D:Nat->Option Nat} {T:Array Value} {ds:List Deferred} {aA:Array Bool} {a:Act} (h:RegG ops V D T ds aA a) {i k s:Nat} {o:Oper}
 (hk:ops[k]? =some o) (hd:D k=some s) (he:∃e∈o.after,e.on=i/\Region.binds .any e=true) (hl:aA.getD i false=false):a.tmps.getD s undef=T.getD s undef:=by
 refine h.old k s (Array.getElem?_eq_some_iff.1 hk).1 hd ?_;cases hb:aA.getD k false with
 | false=>rfl
 | true=>
  obtain⟨e,he1,rfl,he3⟩:=he;rw[h.cl k o hk hb e he1 he3]at hl;cases hl
theorem lK {V:Nat->Value->Prop} {D:Nat->Option Nat} {J:Array Bool->Act->World->Prop} {T:Array Value} {ds:List Deferred} {W:World} {id:Nat} (hm:P.follows .mixedOrders=true)
 (hs:∀(i:Nat) (o:Oper),ops[i]? =some o->(∀e∈o.after,Region.binds .any e=true->e.on<i)/\o.dst=D i/\∀s,D i=some s->s<T.size) (hd:∀k k' s,k<ops.size->k'<ops.size->D k=some s->D k'=some s->k=k')
 (h0:J (Array.replicate ops.size false) ⟨T,ds⟩ {W with drawn:=W.drawn+1})
 (step:∀aA a w i o,aA.size=ops.size->RegG ops V D T ds aA a->J aA a w->ops[i]? =some o->aA.getD i false=false->(∀e∈o.after,Region.binds .any e=true->aA.getD e.on false=true)->
  wpOp P ops Q i (λa' w'=>∃v,a'=a.put (D i) v/\V i v/\J (aA.setIfInBounds i true) a' w') a w)
 (fin:∀aA a w,aA.size=ops.size->(∀i,i<ops.size->aA.getD i false=true)->RegG ops V D T ds aA a->J aA a w->Q .normal a w):
 (Code.region id ops true).wp P Q ⟨T,ds⟩ W:=by
 refine wp_region_any hm ?_;refine zQ (λaA a w=>aA.size=ops.size/\RegG ops V D T ds aA a/\J aA a w) (λi o ho=>(hs i o ho).1) ?_ ?_ _ _ _ _ (by simp) (by simp[List.countP_replicate]) ?_
 . rintro aA a w i o hz ⟨_,hI,hJ⟩ ho hl hdep;have hi:i<ops.size:=(Array.getElem?_eq_some_iff.1 ho).1;refine wpOp_mono ?_ (step aA a w i o hz hI hJ ho hl hdep);rintro a' w' ⟨v,rfl,hv,hJ'⟩;refine⟨by simpa using hz,?_,hJ'⟩;have hcl:∀k o',ops[k]? =some o'->(aA.setIfInBounds i true).getD k false=true->∀e∈o'.after,Region.binds .any e=true->(aA.setIfInBounds i true).getD e.on false=true:=by
    intro k o' hk hlk e he hbi;by_cases hei:e.on=i
    . rw[hei];simp[hz,hi]
    rw[getD_set_ne false (Ne.symm hei)];by_cases hki:k=i
    . subst hki;rw[ho]at hk;injection hk with hk
      subst hk;exact hdep e he hbi
    rw[getD_set_ne false (Ne.symm hki)]at hlk;exact hI.cl k o' hk hlk e he hbi
   cases hD:D i with
   | none=>
    have hput:a.put none v=a:=rfl;rw[hput];refine⟨hI.sz,hI.df,hI.fix,λk s hk hks hlk=>?_,λk s hk hks hlk=>?_,hcl⟩
    . have hki:k≠i:=(by rintro rfl;rw[hD]at hks;cases hks);rw[getD_set_ne false (Ne.symm hki)]at hlk;exact hI.old k s hk hks hlk
    have hki:k≠i:=(by rintro rfl;rw[hD]at hks;cases hks);rw[getD_set_ne false (Ne.symm hki)]at hlk;exact hI.done k s hk hks hlk
   | some d=>
    have hlt:d<a.tmps.size:=(by rw[hI.sz];exact(hs i o ho).2.2 d hD);refine⟨by simp[Act.put,hI.sz],by simp[Act.put,hI.df],λs hs'=>?_,λk s hk hks hlk=>?_,λk s hk hks hlk=>?_,hcl⟩
    . rw[kD hlt,if_neg (λe=>hs' i hi (by rw[hD,e]))];exact hI.fix s hs'
    . have hki:k≠i:=by
       rintro rfl;simp[hz,hi]at hlk
      rw[kD hlt,if_neg (λe=>hki (hd k i s hk hi hks (by rw[hD,e])))];rw[getD_set_ne false (Ne.symm hki)]at hlk;exact hI.old k s hk hks hlk
    rw[kD hlt];by_cases hki:k=i
    . subst hki;rw[hD]at hks;injection hks with hks
      rw[if_pos hks.symm];exact hv
    rw[if_neg (λe=>hki (hd k i s hk hi hks (by rw[hD,e])))];rw[getD_set_ne false (Ne.symm hki)]at hlk;exact hI.done k s hk hks hlk
 . rintro aA a w hall ⟨hz,hI,hJ⟩;exact fin aA a w hz hall hI hJ
 refine⟨by simp,⟨rfl,rfl,λ_ _=>rfl,λ_ _ _ _ _=>rfl,λk s hk hks h=>?_,λk o hk h=>?_⟩,h0⟩;all_goals
  exfalso
  rw[Array.getD_eq_getD_getElem?,Array.getElem?_replicate]at h;split at h <;> simp at h
def bI (D:Nat->Option Nat)(vals:Nat->Value)(T:Array Value):Nat->Array Value
 | 0=>T
 | n+1=>match D n with | some d=>(bI D vals T n).setIfInBounds d (vals n) | none=>bI D vals T n
theorem fA (D:Nat->Option Nat)(vals:Nat->Value)(T:Array Value):∀n,(bI D vals T n).size=T.size
 | 0=>rfl
 | n+1=>by
  unfold bI;cases D n with
  | none=>exact fA D vals T n
  | some d=>simp only[Array.size_setIfInBounds];exact fA D vals T n
theorem lY (D:Nat->Option Nat)(vals:Nat->Value)(T:Array Value):∀n,(∀k k' s,k<n->k'<n->D k=some s->D k'=some s->k=k')->(∀k s,k<n->D k=some s->s<T.size)->
 (∀k s,k<n->D k=some s->(bI D vals T n).getD s undef=vals k)/\∀s,(∀k,k<n->D k≠some s)->(bI D vals T n).getD s undef=T.getD s undef
 | 0,_,_=>⟨λk _ hk=>by omega,λ_ _=>rfl⟩
 | n+1,hd,hl=>by
  obtain⟨h1,h2⟩:=lY D vals T n (λk k' s hk hk'=>hd k k' s (by omega) (by omega)) (λk s hk=>hl k s (by omega));cases hD:D n with
  | none=>
   have hg:bI D vals T (n+1)=bI D vals T n:=by
    conv=>lhs;unfold bI
    rw[hD]
   rw[hg];refine⟨λk s hk hks=>?_,λs hs=>h2 s λk hk=>hs k (by omega)⟩;have hkn:k≠n:=by rintro rfl;rw[hD]at hks;cases hks
   exact h1 k s (by omega) hks
  | some d=>
   have hg:∀s,(bI D vals T (n+1)).getD s undef=if s=d then vals n else(bI D vals T n).getD s undef:=λs=>by
    have:=kD (a:=⟨bI D vals T n,[]⟩) (d:=d) (s:=s) (v:=vals n) (by rw[fA];exact hl n d (by omega) hD);have e:bI D vals T (n+1)=(bI D vals T n).setIfInBounds d (vals n):=by
     conv=>lhs;unfold bI
     rw[hD]
    rw[e];exact this
   refine⟨λk s hk hks=>?_,λs hs=>?_⟩
   . rw[hg];by_cases hkn:k=n
     . subst hkn;rw[hD]at hks;injection hks with hks
       rw[if_pos hks.symm]
     rw[if_neg (λe=>hkn (hd k n s hk (by omega) hks (by rw[hD,e])))];exact h1 k s (by omega) hks
   rw[hg,if_neg (λe=>hs n (by omega) (by rw[hD,e]))];exact h2 s (λk hk=>hs k (by omega))
theorem dL {D:List (Option Nat)} (h:(D.filterMap id).Nodup):∀{k k' s:Nat},D[k]? =some (some s)->D[k']? =some (some s)->k=k':=by
 induction D with
 | nil=>intro k k' s hk;simp at hk
 | cons d D ih=>
  intro k k' s hk hk';have hnd:(D.filterMap id).Nodup:=by
   cases d with
   | none=>simpa using h
   | some x=>rw[List.filterMap_cons_some (f:=id) (a:=some x) (b:=x) rfl,List.nodup_cons]at h;exact h.2
  have hmem:∀j:Nat,D[j]? =some (some s)->d=some s->False:=by
   intro j hj hd;subst hd;rw[List.filterMap_cons_some (f:=id) (a:=some s) (b:=s) rfl,List.nodup_cons]at h;exact h.1 (List.mem_filterMap.2 ⟨some s,List.mem_of_getElem? hj,rfl⟩)
  cases k with
  | zero=>
   cases k' with
   | zero=>rfl
   | succ k'=>
    exact(hmem k' (by simpa using hk') (by simpa using hk)).elim
  | succ k=>
   cases k' with
   | zero=>exact(hmem k (by simpa using hk) (by simpa using hk')).elim
   | succ k'=>rw[ih hnd (k:=k) (k':=k') (s:=s) (by simpa using hk) (by simpa using hk')]
theorem aB {l:Array Bool} {i k:Nat} (h:i≠k):(l.setIfInBounds i true).getD k false=l.getD k false:=getD_set_ne false h
theorem aJ {l:Array Bool} {i:Nat} (h:i<l.size):(l.setIfInBounds i true).getD i false=true:=by simp[h]
theorem eO {vals:Nat->Value} {D:Nat->Option Nat} {J:Array Bool->World->Prop} {T:Array Value} {ds:List Deferred} {W:World} {id:Nat} (hm:P.follows .mixedOrders=true)
 (hs:∀(i:Nat) (o:Oper),ops[i]? =some o->(∀e∈o.after,Region.binds .any e=true->e.on<i)/\o.dst=D i/\∀s,D i=some s->s<T.size) (hd:∀k k' s,k<ops.size->k'<ops.size->D k=some s->D k'=some s->k=k')
 (h0:J (Array.replicate ops.size false) {W with drawn:=W.drawn+1})
 (step:∀aA a w i o,aA.size=ops.size->RegG ops (λk v=>v=vals k) D T ds aA a->J aA w->ops[i]? =some o->aA.getD i false=false->(∀e∈o.after,Region.binds .any e=true->aA.getD e.on false=true)->
  wpOp P ops Q i (λa' w'=>a'=a.put (D i) (vals i)/\J (aA.setIfInBounds i true) w') a w)
 (fin:∀aA w,aA.size=ops.size->(∀i,i<ops.size->aA.getD i false=true)->J aA w->Q .normal ⟨bI D vals T ops.size,ds⟩ w):
 (Code.region id ops true).wp P Q ⟨T,ds⟩ W:=by
 refine lK (V:=λk v=>v=vals k) (J:=λaA _ w=>J aA w) hm hs hd h0 (λaA a w i o hz hI hJ ho hl hdep=>?_) ?_
 . refine wpOp_mono ?_ (step aA a w i o hz hI hJ ho hl hdep);rintro a' w' ⟨rfl,h⟩;exact⟨_,rfl,rfl,h⟩
 rintro aA ⟨t,d⟩ w hz hall hI hJ;obtain rfl:d=ds:=hI.df;have hl:∀k s,k<ops.size->D k=some s->s<T.size:=λk s hk hks=>(hs k ops[k] (Array.getElem?_eq_getElem hk)).2.2 s hks
 obtain⟨g1,g2⟩:=lY D vals T ops.size hd hl;have:t=bI D vals T ops.size:=by
  refine wO (by rw[fA];exact hI.sz) λi=>?_
  by_cases hi:∃k,k<ops.size/\D k=some i
  . obtain⟨k,hk,hki⟩:=hi;rw[g1 k i hk hki];exact hI.done k i hk hki (hall k hk)
  have hi':∀k,k<ops.size->D k≠some i:=λk hk e=>hi ⟨k,hk,e⟩
  rw[g2 i hi'];exact hI.fix i hi'
 subst this;exact fin aA w hz hall hJ
theorem aC {a:Act} {d s:Nat} {v:Value} (h:d≠s):(a.put (some d) v).tmps.getD s undef=a.tmps.getD s undef:=by
 simp only[Act.put];simp[Array.getElem?_setIfInBounds_ne h]
theorem aS {a:Act} {s:Nat} {v:Value} (h:s<a.tmps.size):(a.put (some s) v).tmps.getD s undef=v:=by
 rw[kD h,if_pos rfl]
theorem dC {sp:Nat->Bool} {vals:(Nat->Value)->Nat->Value} {D:Nat->Option Nat} {J:Array Bool->(Nat->Value)->World->Prop} {T:Array Value} {ds:List Deferred} {W:World} {id:Nat} (hm:P.follows .mixedOrders=true)
 (hs:∀(i:Nat) (o:Oper),ops[i]? =some o->(∀e∈o.after,Region.binds .any e=true->e.on<i)/\o.dst=D i/\∀s,D i=some s->s<T.size) (hd:∀k k' s,k<ops.size->k'<ops.size->D k=some s->D k'=some s->k=k')
 (hsp:∀k s,k<ops.size->D k=some s->∀x,vals x k=if sp k=true then x s else vals (λ_=>undef) k)
 (h0:J (Array.replicate ops.size false) (λs=>T.getD s undef) {W with drawn:=W.drawn+1})
 (step:∀aA a w i o,aA.size=ops.size->a.tmps.size=T.size->RegG ops (λk v=>sp k=true\/v=vals (λ_=>undef) k) D T ds aA a->J aA (λs=>a.tmps.getD s undef) w->ops[i]? =some o->aA.getD i false=false->(∀e∈o.after,Region.binds .any e=true->aA.getD e.on false=true)->
  wpOp P ops Q i (λa' w'=>∃v,a'=a.put (D i) v/\(sp i=true\/v=vals (λ_=>undef) i)/\J (aA.setIfInBounds i true) (λs=>(a.put (D i) v).tmps.getD s undef) w') a w)
 (fin:∀aA (x:Nat->Value) w,aA.size=ops.size->(∀i,i<ops.size->aA.getD i false=true)->J aA x w->Q .normal ⟨bI D (vals x) T ops.size,ds⟩ w):
 (Code.region id ops true).wp P Q ⟨T,ds⟩ W:=by
 refine lK (V:=λk v=>sp k=true\/v=vals (λ_=>undef) k) (J:=λaA a w=>J aA (λs=>a.tmps.getD s undef) w) hm hs hd h0 (λaA a w i o hz hI hJ ho hl hdep=>?_) ?_
 . refine wpOp_mono ?_ (step aA a w i o hz hI.sz hI hJ ho hl hdep);rintro a' w' ⟨v,rfl,hv,h⟩;exact⟨v,rfl,hv,h⟩
 rintro aA ⟨t,d⟩ w hz hall hI hJ;obtain rfl:d=ds:=hI.df;have hl:∀k s,k<ops.size->D k=some s->s<T.size:=λk s hk hks=>(hs k ops[k] (Array.getElem?_eq_getElem hk)).2.2 s hks
 obtain⟨g1,g2⟩:=lY D (vals λs=>t.getD s undef) T ops.size hd hl;have:t=bI D (vals λs=>t.getD s undef) T ops.size:=by
  refine wO (by rw[fA];exact hI.sz) λi=>?_
  by_cases hi:∃k,k<ops.size/\D k=some i
  . obtain⟨k,hk,hki⟩:=hi;rw[g1 k i hk hki,hsp k i hk hki];rcases hI.done k i hk hki (hall k hk)with h | h
    . rw[if_pos h]
    by_cases hspk:sp k=true
    . rw[if_pos hspk]
    rw[if_neg hspk];exact h
  have hi':∀k,k<ops.size->D k≠some i:=λk hk e=>hi ⟨k,hk,e⟩
  rw[g2 i hi'];exact hI.fix i hi'
 have hq:=fin aA (λs=>t.getD s undef) w hz hall hJ;rw[<-this]at hq;exact hq
end
end Go.Proofs.Ytiaoabfndnidiaa