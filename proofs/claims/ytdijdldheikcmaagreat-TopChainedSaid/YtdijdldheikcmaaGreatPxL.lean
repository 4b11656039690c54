import Derived.Test.YtdijdldheikcmaaGreatPxK
import Derived.Test.YtdijdldheikcmaaGreatPxI
import Derived.Test.YtdijdldheikcmaaGreatPxH
set_option linter.all false
set_option maxRecDepth 10000
namespace Go.PX
open Go.Proofs
def gr(c:Case)(i:Int):Int:=
 if (bJ c).2.2=0 then (if bc i 0 ((c.chain.au.length:Int)-1) then 0 else 4) else (bJ c).2.2
theorem BY{l:List bH}{i:Int}(h:bc i 0 ((l.length:Int)-1)=true):∃ s,0<=i/\l[i.toNat]?=some s:=by
 simp only[bc,Bool.and_eq_true,decide_eq_true_eq]at h;exact⟨_,h.1,List.getElem?_eq_getElem (by omega)⟩
def iQ(c:Case)(i:Int):D:=
 if gr c i=0 then (match c.chain.au[i.toNat]? with
  | some s=>.agg (cL s c.chain.err)
  | none=>.nilp) else .agg [.str ⟨#[]⟩,i64 0,i64 0,i64 0,i64 0,i64 0,i64 0,.nils,i64 0]
theorem CA{c:Case}(h:(bJ c).2.2=0):(iI c.chain).2.2=0:=by
 rw[ta]at h;by_cases h0:(iI c.chain).2.2=0
 ·exact h0
 ·rw[if_neg h0]at h;exact absurd h h0
theorem Cy{c:Case}(h:(bJ c).2.2=0):c.chain.au.length<=7/\c.chain.rows.length<=6:=rz (CA h)
theorem JN(c:Case)(i:Int):aW Tryz.prog 70 [c.d,i64 i] (.tup [iQ c i,i64 (gr c i)]):=by
 refine aA Tryz.func70 rfl (ft:=R6) 2 fun {σ} Y st=>?_;conv=>whnf
 refine ae (Er c) rfl rfl ?_;conv=>whnf
 have hl:=Cy (c:=c);refine ai (fun h0=>?_) (fun h0=>?_)
 ·have h0:(bJ c).2.2≠0:=by simpa using h0
  conv=>whnf
  refine al 0 rfl ⟨⟨?_,rfl⟩,rfl⟩;simp[iQ,gr,h0,bF]
 have h0:(bJ c).2.2=0:=by simpa using h0
 obtain⟨hl,_⟩:=hl h0;conv=>whnf
 refine pz (wrap_i64 (by simp;omega)) ?_;conv=>whnf
 refine ag (cK _ _ _) rfl 1 rfl ?_;conv=>whnf
 have hlen:((c.chain.au.map bH.cells).length:Int)=c.chain.au.length:=by simp
 refine ai (fun h1=>?_) (fun h1=>?_)
 ·have h1:bc i 0 ((c.chain.au.length:Int)-1)=false:=by rw[<- hlen];simpa using h1
  conv=>whnf
  refine al 0 rfl ⟨⟨?_,rfl⟩,rfl⟩;simp[iQ,gr,h0,h1,bF]
 ·have h1:bc i 0 ((c.chain.au.length:Int)-1)=true:=by rw[<- hlen];simpa using h1
  obtain⟨s,hi,hs⟩:=BY h1;conv=>whnf
  refine bZ s.cells ⟨hi,by simp[hs]⟩ ?_;conv=>whnf
  refine al 0 rfl ⟨⟨?_,rfl⟩,rfl⟩;simp[iQ,gr,h0,h1,hs,bF];rfl
theorem lL{α:Type}{f:List α->α->Int}:∀ {l:List α} {b:List α} {i:Int},(a8 f b l i).2=0 -> ∀ x∈l,∃ b',f b' x=0
 | [],_,_,_,x,hx=>by cases hx
 | y::r,b,i,h,x,hx=>by
  simp only[a8]at h;split at h
  ·rename_i h0
   rcases List.mem_cons.1 hx with rfl|hx
   ·exact⟨b,h0⟩
   ·exact lL h x hx
  ·rename_i h0;exact absurd h h0
theorem bg{n lo hi:Int}:bc n lo hi=true↔lo<=n/\n<=hi:=by
 simp[bc]
theorem tq{set:Int}:∀ {l:List cH} {last:Int},fE set last l=0 -> ∀ g∈l,(set<=g.day/\g.day<=40000)/\(0<=g.shown/\g.shown<=60000)
 | [],_,_,g,hg=>by cases hg
 | x::r,last,h,g,hg=>by
  simp only[fE]at h;split at h
  ·rename_i h1
   simp only[Bool.and_eq_true,bg]at h1;split at h
   ·cases h
   ·rcases List.mem_cons.1 hg with rfl|hg
    ·exact h1
    ·exact tq h g hg
  ·cases h
structure DV(s:bH):Prop where
 eh:1<=s.eh/\s.eh<=40
 set:0<=s.set/\s.set<=40000
 new:1<=s.new.lo/\s.new.lo<=s.new.hi/\s.new.hi<=60000
 wear:0<=s.wear.lo/\s.wear.lo<=s.wear.hi/\s.wear.hi<=20
 len:s.aQ.length<=6
 aQ:∀ g∈s.aQ,(s.set<=g.day/\g.day<=40000)/\(0<=g.shown/\g.shown<=60000)
theorem CB{s:bH}(h:jt s=0):DV s:=by
 unfold jt at h;split at h
 ·rename_i h1
  simp only[Bool.and_eq_true,bg]at h1;split at h
  ·cases h
  ·split at h
   ·cases h
   ·refine⟨by omega,by omega,by omega,by omega,by omega,tq h⟩
 ·cases h
structure fU(c:Case):Prop where
 lens:1<=c.chain.au.length/\c.chain.au.length<=7
 O0:1<=c.chain.rows.length/\c.chain.rows.length<=6
 dm:1<=c.chain.dm/\c.chain.dm<=50
 gH:0<=c.chain.gH/\c.chain.gH<=200
 err:0<=c.chain.err/\c.chain.err<=2000
 hold:0<=c.chain.hold.lo/\c.chain.hold.lo<=c.chain.hold.hi/\c.chain.hold.hi<=200000
 au:∀ s∈c.chain.au,DV s/\s.set<=c.day
 rows:∀ r∈c.chain.rows,(1<=r.scope/\r.scope<=200)/\(1<=r.holds/\r.holds<=1000)
 ee:(0<=c.ee.bk/\c.ee.bk<=10000)/\(0<=c.ee.current/\c.ee.current<=10000)/\(0<=c.ee.bm/\c.ee.bm<=10000)/\(0<=c.ee.yh/\c.ee.yh<=20)
 day:0<=c.day/\c.day<=40000
 Lj:1<=c.aE.length/\c.aE.length<=6
 aE:∀ w∈c.aE,(1<=w.depth.lo/\w.depth.lo<=w.depth.hi/\w.depth.hi<=1000)/\(0<=w.bk.lo/\w.bk.lo<=w.bk.hi/\w.bk.hi<=80)/\(0<=w.current.lo/\w.current.lo<=w.current.hi/\w.current.hi<=80)/\(0<=w.bm.lo/\w.bm.lo<=w.bm.hi/\w.bm.hi<=150)
theorem fj{c:Case}(h:(bJ c).2.2=0):fU c:=by
 unfold bJ at h;split at h;case isFalse h0=>exact absurd h h0
 rename_i hp;simp only at h;split at h;case isFalse h0=>exact absurd h h0
 rename_i hs;unfold zE at h;simp only at h;split at h;case isFalse h0=>exact absurd h h0
 rename_i hr;unfold mu at h;split at h;case isFalse=>cases h
 rename_i h1;split at h;case isFalse=>cases h
 rename_i h2;split at h;case isTrue=>cases h
 rename_i h3;split at h;case isFalse=>cases h
 rename_i h4;simp only at h;split at h;case isFalse h0=>exact absurd h h0
 rename_i hw;unfold eJ at hp;split at hp;case isFalse=>cases hp
 rename_i p1;split at hp;case isFalse=>cases hp
 rename_i p2;split at hp;case isTrue=>cases hp
 rename_i p3;simp only[Bool.and_eq_true,bg]at h1 h2 h4 p1 p2;refine⟨by omega,by omega,by omega,by omega,by omega,by omega,fun s hm=>⟨?_,?_⟩,fun r hm=>?_,by omega,by omega,by omega,fun w hm=>?_⟩
 ·obtain⟨b,hb⟩:=lL hs s hm
  unfold fc at hb;split at hb
  ·split at hb
   ·cases hb
   ·exact CB hb
  ·cases hb
 ·rw[Bool.not_eq_true,List.any_eq_false]at h3
  have:=h3 s hm;simp at this;exact this
 ·obtain⟨b,hb⟩:=lL hr r hm
  unfold l7 at hb;split at hb
  ·rename_i q;simp only[Bool.and_eq_true,bg]at q;exact q
  ·cases hb
 ·obtain⟨b,hb⟩:=lL hw w hm
  unfold cA at hb;split at hb
  ·rename_i q
   simp only[Bool.and_eq_true,bg]at q;split at hb
   ·cases hb
   ·omega
  ·cases hb
theorem fU.look{c:Case}(h:fU c){s:bH}(hs:s∈c.chain.au):kn s c.chain.err s.aQ:=by
 obtain⟨⟨h1,h2,h3,h4,h5,h6⟩,h7⟩:=h.au s hs;have he:=h.err;refine⟨by omega,⟨by omega,by omega,by omega⟩,fun g hg=>?_,by omega⟩;have:=h6 g hg;unfold xm;omega
def ni(c:Case)(i day:Int):Span×Int:=
 if gr c i=0 then (match c.chain.au[i.toNat]? with
  | some s=>if bc day s.set 40000 then (if (dw s c.chain.err s.aQ day).2 then ((dw s c.chain.err s.aQ day).1,0) else (⟨0,0⟩,9)) else (⟨0,0⟩,7)
  | none=>(⟨0,0⟩,0)) else (⟨0,0⟩,gr c i)
theorem ue{c:Case}{i:Int}(h:gr c i=0):(bJ c).2.2=0 /\ ∃ s,0<=i/\c.chain.au[i.toNat]?=some s:=by
 unfold gr at h;split at h
 ·rename_i h0
  split at h
  ·rename_i h1
   obtain⟨s,h2,h3⟩:=BY h1;exact⟨h0,s,h2,h3⟩
  ·cases h
 ·rename_i h0;exact absurd h h0
theorem Mu(c:Case)(i day:Int):aW Tryz.prog 23 [c.d,i64 i,i64 day] (.tup [(ni c i day).1.d,i64 (ni c i day).2]):=by
 refine aA Tryz.func23 rfl (ft:=Rj) 3 fun {σ} Y st=>?_;conv=>whnf
 refine ae (ds:=[c.d,i64 i]) (JN c i) rfl rfl ?_;by_cases h0:gr c i=0
 ·obtain⟨hc,s,hi,hs⟩:=ue h0
  have hR:=fj hc;have hm:=List.mem_of_getElem? hs;have hL:=hR.look hm;have hr:=(hR.au s hm).1;have hD:iQ c i = .agg (cL s c.chain.err):=by simp[iQ,h0,hs]
  rw[hD,h0];conv=>whnf
  refine ag (cK s.set 40000 day) rfl 1 rfl ?_;conv=>whnf
  refine ai (fun h1=>?_) (fun h1=>?_)
  ·have h1:bc day s.set 40000=false:=by simpa using h1
   conv=>whnf
   refine al 0 rfl ⟨⟨?_,rfl⟩,rfl⟩;simp[ni,h0,hs,h1,bF];rfl
  ·have h1:bc day s.set 40000=true:=by simpa using h1
   have xp:=bg.1 h1;have C0:=hr.set;conv=>whnf
   refine ae (ds:=[.agg (cL s c.chain.err),i64 day]) (Mw s c.chain.err day hL (by omega)) rfl rfl ?_;conv=>whnf
   refine ai (fun h2=>?_) (fun h2=>?_)
   ·have h2:(dw s c.chain.err s.aQ day).2=false:=by simpa using h2
    conv=>whnf
    refine al 0 rfl ⟨⟨?_,rfl⟩,rfl⟩;simp[ni,h0,hs,h1,h2,bF];rfl
   ·have h2:(dw s c.chain.err s.aQ day).2=true:=by simpa using h2
    conv=>whnf
    refine al 0 rfl ⟨⟨?_,rfl⟩,rfl⟩;simp[ni,h0,hs,h1,h2,bF];rfl
 ·have hD:iQ c i = .agg [.str ⟨#[]⟩,i64 0,i64 0,i64 0,i64 0,i64 0,i64 0,.nils,i64 0]:=by simp[iQ,h0]
  rw[hD];conv=>whnf
  refine ai (fun h1=>?_) (fun h1=>absurd h0 (by simpa using h1));conv=>whnf
  refine al 0 rfl ⟨⟨?_,rfl⟩,rfl⟩;simp[ni,h0,bF];rfl
theorem MF(n lo hi:Int):aW Tryz.prog 158 [i64 n,.ref [i64 lo],.ref [i64 hi]] (.bool (decide (n<lo)||decide (n>hi))):=by
 refine g8 mixed ao Tryz.func158 rfl (ft:=Nu) 3 (by decide +kernel) rfl fun {σ} Y s=>?_;conv=>whnf
 refine ai (fun hb=>?_) (fun hb=>?_)
 ·conv=>whnf
  refine al 0 rfl ⟨⟨?_,rfl⟩,rfl⟩;have hb:n<lo:=by simpa using hb
  simp[bF,hb]
 ·conv=>whnf
  refine al 0 rfl ⟨⟨?_,rfl⟩,rfl⟩;have hb:¬ n<lo:=by simpa using hb
  simp[bF,hb]
theorem Eu(lo hi:Int)(l:List Int)(hl:l.length<4000000000000000000):aW Tryz.prog 146 [i64 lo,i64 hi,bx l] (.bool (l.any fun n=>decide (n<lo)||decide (n>hi))):=by
 refine g8 mixed ao Tryz.func146 rfl (ft:=Nk) 3 (by decide +kernel) rfl fun {σ} Y s=>?_;conv=>whnf
 refine ag (GS l 158 [.ref [i64 lo],.ref [i64 hi]] (fun n=>decide (n<lo)||decide (n>hi)) hl fun x _=>MF x lo hi) rfl 1 rfl ?_;conv=>whnf
 exact af
theorem pO(lo hi a:Int):aW Tryz.prog 146 [i64 lo,i64 hi,.vs [[i64 a]]] (.bool (!bc a lo hi)):=by
 exact aW.cast (Eu lo hi [a] (by simp)) (by simp[l4])
theorem BG(lo hi a b:Int):aW Tryz.prog 146 [i64 lo,i64 hi,.vs [[i64 a],[i64 b]]] (.bool (!(bc a lo hi&&bc b lo hi))):=by
 exact aW.cast (Eu lo hi [a,b] (by simp)) (by simp[l4])
end Go.PX
namespace Go.PX
open Go.RowKit
theorem py{ops:Array Oper}{aV:Array Bool}(Ae:∀ (j:Nat) (o:Oper),aV.getD j false=true->ops[j]?=some o -> ∀ e∈o.after,Region.binds .any e=true->aV.getD e.on false=true){eO:List OT}(hb:qY 0 ops.toList=true)(hA:nB eO 0 ops.toList eO=true)(hlen:ops.toList.length=eO.length) :
  ∀ (n j:Nat) (o:Oper) (t:OT),j<n->ops[j]?=some o->eO[j]?=some t->(∀ e∈o.after,Region.binds .any e=true->aV.getD e.on false=true) -> ∀ i,i<j->i∉t.iz->aV.getD i false=true
 | 0,_,_,_,hj,_,_,_,_,_,_=>by omega
 | n+1,j,o,t,hj,ho,ht,hl,i,hi,hn=>by
  rcases l3 hA j o t (by simpa using ho) ht i (by omega) with h1|⟨e,he,EF,Hb⟩
  ·exact absurd h1 hn
  have dN:=gq hb j o (by simpa using ho) e he EF;rcases Hb with rfl|⟨CX,u,hu,Lq⟩
  ·exact hl e he EF
  ·have Lr:j<ops.size:=(Array.getElem?_eq_some_iff.1 ho).1
   have mG:ops[e.on]?=some ops[e.on]:=Array.getElem?_eq_getElem (by omega);exact py Ae hb hA hlen n e.on _ u (by omega) mG hu (Ae e.on _ (hl e he EF) mG) i CX Lq
structure DX(ops:Array Oper)(b:Nat)(l:List Rec)(aV:Array Bool):Prop where
 mem:∀ i,((∃ q∈l,q.idx=i)\/(b<=i/\i<ops.size))↔aV.getD i true=false
 size:aV.size=ops.size
 closed:∀ (j:Nat) (o:Oper),aV.getD j false=true->ops[j]?=some o -> ∀ e∈o.after,Region.binds .any e=true->aV.getD e.on false=true
def Ht(eO:List OT)(b:Nat):Bool:=(eO.drop b).all fun t=>t.iz.isEmpty
theorem vX{eO:List OT}{b:Nat}(h:Ht eO b=true){j:Nat}{t:OT}(hj:b<=j)(ht:eO[j]?=some t):t.iz = []:=by
 have h1:=List.all_eq_true.1 h t (by
  refine List.mem_of_getElem? (i:=j-b) ?_;rw[List.getElem?_drop,show b+(j-b)=j by omega];exact ht)
 simpa using h1
section
variable {P : Program} {σ : Type} {cx : Cx σ} {r : Option Nat} {m : List Nat}
theorem DA(yS:qE P cx){ops:Array Oper}{rt:RT}(sd:jL ops.toList rt=true){b:Nat}(IM:b<=ops.size)(yT:Ht rt.eO b=true){Q:Exit->Act->World->Prop}{f':Fs}{s:σ}{n0:Nat}{F0:Nat->Nat}{w0:World}{k:Nat}
  (hd:∀ o∈ops.toList,∀ d,o.dst=some d->d<n0)
  (G0:∀ a w L F (st:St σ) aV,cm st=f'->st.s=s->Good cx r m L F st a w->Tr F0 w0 F w->a.tmps.size=n0->DX ops b [] aV->wpAnyIn (fr r) 0 P .any ops Q k aV a w) :
  ∀ (n:Nat) {l:List Rec} {aV:Array Bool} {st:St σ} {a:Act} {w:World} {L:Loc} {F:Nat->Nat},l.length=n->(∀ q∈l,q.idx<b) ->
  Rs P ops rt.eO l->Good cx r m L F st a w->st.s=s->Tr F0 w0 F w->a.tmps.size=n0->(∀ q∈l,∀ id∈bn q.ws,oy (cm st) id)->nI l (cm st) f'->DX ops b l aV ->
  wpAnyIn (fr r) 0 P .any ops Q (k+n) aV a w:=by
 simp only[jL,Bool.and_eq_true]at sd;obtain⟨⟨⟨⟨hlen,kV⟩,mR⟩,lR⟩,rG⟩:=sd;have hlen:=Nat.eq_of_beq_eq_true hlen;intro n
 induction n with
 | zero=>
  intro l aV st a w L F pg CW xB hg hs tr hn hu bp ht;have hl:l = []:=List.length_eq_zero_iff.1 pg;subst hl;have bp:f'=cm st:=bp;exact G0 a w L F st aV bp.symm hs hg tr hn ht
 | succ n ih=>
  intro l aV st a w L F pg CW xB hg hs tr hn hu bp ht;have xv:∃ q l',l=q::l':=by
   cases l with
   | nil=>simp at pg
   | cons q l'=>exact⟨q,l',rfl⟩
  refine⟨fun hr=>?_,fun j hj=>?_⟩
  ·exfalso
   obtain⟨q,l',rfl⟩:=xv;have UP:=CW q (List.mem_cons_self ..);have hi:=(ht.mem q.idx).1 (.inl ⟨q,List.mem_cons_self ..,rfl⟩);have hG:q.idx∈Region.ready .any ops aV:=by
    rw[mem_ready];refine⟨hi,ops[q.idx]'(by omega),Array.getElem?_eq_getElem (by omega),fun e he hb=>?_⟩;have dN:=gq kV q.idx (ops[q.idx]'(by omega)) (by simp) e he hb;refine kx (by rw[ht.size];omega) fun hf=>?_;rcases (ht.mem e.on).2 hf with⟨q',DL,J3⟩|⟨h1,_⟩
    ·rcases List.mem_cons.1 DL with h|h
     ·subst h;omega
     ·have:=((List.pairwise_cons.1 xB.pw).1 _ h).lt
      omega
    ·omega
   rw[hr]at hG;cases hG
  ·obtain⟨G5,oj,CY,lP⟩:=mem_ready.1 hj
   have Lr:j<ops.size:=(Array.getElem?_eq_some_iff.1 CY).1;have Tz:∃ q∈l,q.idx=j:=by
    rcases (ht.mem j).2 G5 with h|⟨h,_⟩
    ·exact h
    ·exfalso
     obtain⟨q,l',rfl⟩:=xv;have UP:=CW q (List.mem_cons_self ..);have Hc:rt.eO[j]?=some (rt.eO[j]'(by rw[<- hlen];simpa using Lr)):=List.getElem?_eq_getElem _;have h1:=py ht.closed kV mR hlen (j+1) j oj _ (by omega) CY Hc lP q.idx (by omega) (by rw[vX yT h Hc];simp);have h2:=iY h1;rw[(ht.mem q.idx).1 (.inl ⟨q,List.mem_cons_self ..,rfl⟩)]at h2;cases h2
   obtain⟨q,hq,rfl⟩:=Tz;obtain⟨l1,l2,rfl⟩:=List.append_of_mem hq;have u4:=List.pairwise_append.1 xB.pw;obtain⟨t,TC,TB⟩:=xB.iz q hq;have gd:∀ p∈l1,DR p q:=by
    intro p hp;have Ku:=u4.2.2 p hp q (List.mem_cons_self ..);refine Ku.free (Classical.byContradiction fun u1=>?_);rw[TB]at u1;have:=py ht.closed kV mR hlen (q.idx+1) q.idx oj t (by omega) CY TC lP p.idx Ku.lt u1;have h3:=iY this;rw[(ht.mem p.idx).1 (.inl ⟨p,List.mem_append_left _ hp,rfl⟩)]at h3;cases h3
   obtain⟨pX,gf⟩:=nI.front gd bp;have yc:=xB.news q hq;have yY:cm (aH st q.ws)=bL (cm st) q.ws:=xl q.ws st yc (hu q hq);refine xB.snd q hq cx yS r m L F st a w pX.1 pX.2 hg (fun o ho k hk=>?_) _ _ fun a' L' F' w' cM eR o9=>?_
   ·rw[hn]
    exact hd o (by simpa using Array.mem_of_getElem? ho) k hk
   ·have hG:∀ p,p∈l1++l2->p∈l1++q::l2:=fun p hp=>by
     rcases List.mem_append.1 hp with h|h
     ·exact List.mem_append_left _ h
     ·exact List.mem_append_right _ (List.mem_cons_of_mem _ h)
    have eX:∀ p∈l1++l2,p.idx≠q.idx:=by
     intro p hp;rcases List.mem_append.1 hp with h|h
     ·have:=(u4.2.2 p h q (List.mem_cons_self ..)).lt;omega
     ·have:=((List.pairwise_cons.1 u4.2.1).1 p h).lt;omega
    refine ih (l:=l1++l2) (by simp at pg ⊢;omega) (fun p hp=>CW p (hG p hp)) ⟨?_,fun p hp=>xB.snd p (hG p hp),fun p hp=>xB.news p (hG p hp),fun p hp=>xB.iz p (hG p hp)⟩ eR ((cJ _ _).trans hs) (Tr.trans tr o9) (cM.trans hn) ?_ (by rw[yY];exact gf) ⟨fun i=>?_,?_,?_⟩
    ·exact List.pairwise_append.2 ⟨u4.1,(List.pairwise_cons.1 u4.2.1).2,fun x hx y hy=>u4.2.2 x hx y (List.mem_cons_of_mem _ hy)⟩
    ·intro p hp id eb
     rw[yY];refine(hu p (hG p hp) id eb).bL ?_ ?_
     ·rcases List.mem_append.1 hp with h|h
      ·exact(gd p h).l.news id eb
      ·exact((List.pairwise_cons.1 u4.2.1).1 p h).names id eb
     ·rcases List.mem_append.1 hp with h|h
      ·exact(gd p h).l.C9 id (fS eb)
      ·exact((List.pairwise_cons.1 u4.2.1).1 p h).C9 id eb
    ·by_cases oM:q.idx=i
     ·subst oM
      have dN:q.idx<aV.size:=by rw[ht.size];exact(Array.getElem?_eq_some_iff.1 CY).1
      have UP:=CW q hq;constructor
      ·rintro (⟨p,hp,he⟩|⟨h,_⟩)
       ·exact absurd he (eX p hp)
       ·omega
      ·intro h;simp[dN]at h
     ·rw[getD_set_ne true oM,<- ht.mem i]
      constructor
      ·rintro (⟨p,hp,he⟩|h)
       ·exact .inl ⟨p,hG p hp,he⟩
       ·exact .inr h
      ·rintro (⟨p,hp,he⟩|h)
       ·refine .inl ⟨p,?_,he⟩
        rcases List.mem_append.1 hp with h|h
        ·exact List.mem_append_left _ h
        ·rcases List.mem_cons.1 h with rfl|h
         ·exact absurd he oM
         ·exact List.mem_append_right _ h
       ·exact .inr h
    ·rw[Array.size_setIfInBounds];exact ht.size
    ·intro k o' hk AA e he hb
     by_cases yR:q.idx=k
     ·subst yR
      rw[CY]at AA;cases AA;exact getD_set_true (lP e he hb)
     ·rw[getD_set_ne false yR]at hk
      exact getD_set_true (ht.closed k o' hk AA e he hb)
theorem Dz{ops:Array Oper}{rt:RT}(sd:jL ops.toList rt=true){b:Nat}(yT:Ht rt.eO b=true){Q:Exit->Act->World->Prop} :
  ∀ (n i:Nat) {aV:Array Bool} {a:Act} {w:World},i+n=ops.size->b<=i->DX ops i [] aV->wpOpsIn (fr r) 0 P ops Q (List.range' i n) a w->wpAnyIn (fr r) 0 P .any ops Q n aV a w:=by
 simp only[jL,Bool.and_eq_true]at sd;obtain⟨⟨⟨⟨hlen,kV⟩,mR⟩,lR⟩,rG⟩:=sd;have hlen:=Nat.eq_of_beq_eq_true hlen;intro n
 induction n with
 | zero=>
  intro i aV a w hi hb ht h;refine⟨?_,h⟩
  cases hr:Region.ready .any ops aV with
  | nil=>rfl
  | cons j _=>
   have hj:j∈Region.ready .any ops aV:=by rw[hr];exact List.mem_cons_self ..
   rcases (ht.mem j).2 (mem_ready.1 hj).1 with⟨q,hq,_⟩|⟨h1,h2⟩
   ·cases hq
   ·omega
 | succ n ih=>
  intro i aV a w hi hb ht h;rw[List.range'_succ,wpOpsIn_cons]at h;refine⟨fun hr=>?_,fun j hj=>?_⟩
  ·exfalso
   have hu:=(ht.mem i).1 (.inr ⟨Nat.le_refl _,by omega⟩);have hG:i∈Region.ready .any ops aV:=by
    rw[mem_ready];refine⟨hu,ops[i]'(by omega),Array.getElem?_eq_getElem (by omega),fun e he EF=>?_⟩;have dN:=gq kV i (ops[i]'(by omega)) (by simp) e he EF;refine kx (by rw[ht.size];omega) fun hf=>?_;rcases (ht.mem e.on).2 hf with⟨q',DL,_⟩|⟨h1,_⟩
    ·cases DL
    ·omega
   rw[hr]at hG;cases hG
  ·obtain⟨G5,oj,CY,lP⟩:=mem_ready.1 hj
   have Lr:j<ops.size:=(Array.getElem?_eq_some_iff.1 CY).1;have Tb:j=i:=by
    rcases (ht.mem j).2 G5 with⟨q,hq,_⟩|⟨h1,_⟩
    ·cases hq
    rcases Nat.lt_or_ge i j with h2|h2
    ·exfalso
     have Hc:rt.eO[j]?=some (rt.eO[j]'(by rw[<- hlen];simpa using Lr)):=List.getElem?_eq_getElem _;have h3:=py ht.closed kV mR hlen (j+1) j oj _ (by omega) CY Hc lP i h2 (by rw[vX yT (by omega) Hc];simp);have h4:=iY h3;rw[(ht.mem i).1 (.inr ⟨Nat.le_refl _,by omega⟩)]at h4;cases h4
    ·omega
   subst Tb;refine wpOpIn_mono (fun a' w' h'=>ih (j+1) (by omega) (by omega) ⟨fun k=>?_,?_,?_⟩ h') h
   ·by_cases yR:j=k
    ·subst yR
     have:j<aV.size:=by rw[ht.size];exact Lr
     constructor
     ·rintro (⟨q,hq,_⟩|⟨h1,_⟩)
      ·cases hq
      ·omega
     ·intro h;simp[this]at h
    ·rw[getD_set_ne true yR,<- ht.mem k]
     constructor
     ·rintro (⟨q,hq,_⟩|⟨h1,h2⟩)
      ·cases hq
      ·exact .inr ⟨by omega,h2⟩
     ·rintro (⟨q,hq,_⟩|⟨h1,h2⟩)
      ·cases hq
      ·exact .inr ⟨by omega,h2⟩
   ·rw[Array.size_setIfInBounds];exact ht.size
   ·intro k o' hk AA e he hb
    by_cases yR:j=k
    ·subst yR
     rw[CY]at AA;cases AA;exact getD_set_true (lP e he hb)
    ·rw[getD_set_ne false yR]at hk
     exact getD_set_true (ht.closed k o' hk AA e he hb)
end
section
variable {P : Program} {T : dJ} {ft : FT} {σ : Type} {Y : Hd σ}
theorem ym(hm:P.follows .mixedOrders=true)(hT:aY P T)(rt:RT)(b:Nat){id:Nat}{ops:Array Oper}(sd:jL ops.toList rt=true)(yT:(Nat.ble b ops.toList.length&&Ht rt.eO b)=true){e:Env}{h:ar}{s:σ}{K:dR->St σ->Prop}
  (hk:ry rt.made e h fun e h=>Cp P T rt.made ops.toList ((ops.toList.zip rt.eO).take b) [] e h fun e h=>wpOps P T Y ops.toList (ops.toList.drop b) e h s fun e h s=>dX (aT ft.ks e) fun e=>K .normal ⟨e,h,s⟩):wR P ft Y id ops ⟨e,h,s⟩ K:=by
 refine⟨fun cx hY r m L F a w hg hc=>?_⟩;rw[Bool.and_eq_true]at yT;have IM:b<=ops.size:=by have:=Nat.le_of_ble_eq_true yT.1;simpa using this
 have EY:=sd;simp only[jL,Bool.and_eq_true]at EY;obtain⟨⟨⟨⟨hlen,kV⟩,mR⟩,lR⟩,rG⟩:=EY;have hlen:=Nat.eq_of_beq_eq_true hlen;have hd:=uf hc;obtain⟨e1,h1,L1,hk,g9,hu⟩:=wX rt.made (fun d N4=>by
  have:=List.all_eq_true.1 rG d N4;exact Nat.le_of_ble_eq_true this) hg hk (fun _=>False) (fun _ h=>h.elim)
 obtain⟨R,eN,hN,k1,k2,k3,k4,k5,k6⟩:=Gc hT lR ((ops.toList.zip rt.eO).take b) [] (fun j p hp=>by
  rw[List.getElem?_take]at hp;split at hp
  ·have:=List.getElem?_zip_eq_some.1 hp
   simpa using this
  ·cases hp) (fun k q hq=>by simp at hq) List.Pairwise.nil hk
 simp only[List.nil_append]at k4 k5;have Uv:R.length=b:=by
  rw[k3,List.length_take,List.length_zip,hlen];have:ops.toList.length=ops.size:=by simp
  omega
 have G3:∀ q∈R,q.idx<b:=fun q hq=>by
  obtain⟨k,eW,uS⟩:=List.mem_iff_getElem.1 hq;have:=(k4 k q (by rw[List.getElem?_eq_getElem eW,uS])).1;omega
 have Ig:Tr F w F { w with drawn:=w.drawn+1 }:=Tr.drew _;refine wpIn_mono (wpIn_region_any (id:=id) (Q:=sP Y cx r m F w a.tmps.size (fun e h s=>dX (aT ft.ks e) fun e=>K .normal ⟨e,h,s⟩)) hm ?_) fun ex a' w' hq=>?_
 ·have S4:ops.size=(ops.size-b)+b:=by omega
  rw[S4];refine DA (cx:=cx) hY.laid (r:=r) (m:=m) (s:=s) (n0:=a.tmps.size) (F0:=F) (w0:=w) (f':=⟨get eN,get hN⟩) sd IM yT.2 hd (fun a' w' L' F' st aV hf hs eR tr hn ht=>?_) b (l:=R) (st:=⟨e1,h1,s⟩) Uv G3
   ⟨k5,fun q hq=>?_,fun q hq=>?_,fun q hq=>?_⟩ (g9.same (w':={ w with drawn:=w.drawn+1 }) rfl rfl rfl rfl) rfl Ig rfl (fun q hq x hx=>hu x (.inl (k6 q hq x hx))) k2 ⟨fun i=>?_,by simp;omega,fun j o hj=>?_⟩
  ·have he:get st.env=get eN:=congrArg Fs.env hf
   have hh:get st.heap=get hN:=congrArg Fs.heap hf;have lQ:=eR.sub (e:=eN) (h:=hN) (fun x v hx=>by rw[he];exact hx) (fun x v hx=>by rw[hh];exact hx);rw[hs]at lQ;refine Dz sd yT.2 (ops.size-b) b (by omega) (Nat.le_refl _) ht ?_;have:=nm hT hY (ops.toList.drop b) b (fun j=>by simp) lQ hn (fun o ho=>hd o (List.mem_of_mem_drop ho)) tr k1;simpa using this
  ·obtain⟨k,eW,uS⟩:=List.mem_iff_getElem.1 hq
   exact(k4 k q (by rw[List.getElem?_eq_getElem eW,uS])).2.snd
  ·obtain⟨k,eW,uS⟩:=List.mem_iff_getElem.1 hq
   exact(k4 k q (by rw[List.getElem?_eq_getElem eW,uS])).2.news
  ·obtain⟨k,eW,uS⟩:=List.mem_iff_getElem.1 hq
   obtain⟨o,t,h1,h2,h3,_⟩:=(k4 k q (by rw[List.getElem?_eq_getElem eW,uS])).2.op;exact⟨t,h2,h3⟩
  ·rw[<- S4,Array.getD_eq_getD_getElem?,Array.getElem?_replicate]
   constructor
   ·rintro (⟨q,hq,rfl⟩|⟨h1,h2⟩)
    ·have:=G3 q hq
     rw[if_pos (by omega)];rfl
    ·rw[if_pos h2];rfl
   ·intro hi
    by_cases DG:i<b
    ·exact .inl ⟨R[i],List.getElem_mem ..,(k4 i R[i] (List.getElem?_eq_getElem (by omega))).1⟩
    ·by_cases Kg:i<ops.size
     ·exact .inr ⟨by omega,Kg⟩
     ·rw[if_neg Kg]at hi;simp at hi
  ·rw[<- S4,Array.getD_eq_getD_getElem?,Array.getElem?_replicate]at hj
   split at hj<;>cases hj
 ·rcases hq with⟨e',h',s',L',F',hex,hk,eR,tr,hs⟩|hp
  case inr=>exact .inr hp
  rw[fX]at hk;exact .inl ⟨.normal,_,m,L',F',hex,hk,eR.sub (ia ft.ks e') (fun _ _ h=>h),tr,hs⟩
end
end Go.PX
namespace Go.PX
mutual
def fb:D->D
 | .agg cs=>.agg (l5 cs)
 | .tup cs=>.tup (l5 cs)
 | .vs es=>.vs (uy es)
 | .nils=>.vs []
 | .ref cs=>.ref (l5 cs)
 | .bool b=>.bool b
 | .int k n=>.int k n
 | .str s=>.str s
 | .nilp=>.nilp
 | .mv bT=>.mv bT
 | .nilm=>.nilm
 | .clo f aM=>.clo f aM
 | .mth f first=>.mth f first
 | .nilf=>.nilf
 | .ifc t v=>.ifc t v
 | .nili=>.nili
def l5:List D->List D
 | []=>[]
 | c::r=>fb c::l5 r
def uy:List (List D)->List (List D)
 | []=>[]
 | c::r=>l5 c::uy r
end
theorem om:∀ l:List D,(l5 l).length=l.length
 | []=>rfl
 | c::r=>by simp only[l5,List.length_cons,om r]
theorem oi:∀ l:List (List D),(uy l).length=l.length
 | []=>rfl
 | c::r=>by simp only[uy,List.length_cons,oi r]
mutual
theorem bq.fb{F:Nat->Nat}{w:World}:∀ (a:D) (v:Value),bq F w a v->bq F w (fb a) v
 | .agg cs,_,hr=>by
  obtain⟨l,rfl,hl⟩:=hr;exact⟨l,rfl,aN.fb cs _ hl⟩
 | .tup cs,_,hr=>by
  obtain⟨l,rfl,hl⟩:=hr;exact⟨l,rfl,aN.fb cs _ hl⟩
 | .vs es,_,hr=>by
  obtain⟨a,len,cap,rfl,hl,hc,he⟩:=hr;refine⟨a,len,cap,rfl,by rw[oi];exact hl,hc,fun eX=>?_⟩;obtain⟨b,off,sz,ha,hs,mG⟩:=he (by rintro rfl;exact eX rfl);exact⟨b,off,sz,ha,hs,cv.fb es b off sz mG⟩
 | .nils,_,hr=>by
  have hx:_=Value.slice none 0 0:=hr;subst hx;exact⟨none,0,0,rfl,rfl,Nat.le_refl _,fun h=>absurd rfl h⟩
 | .ref cs,_,hr=>by
  obtain⟨b,off,rfl,hc⟩:=hr;exact⟨b,off,rfl,bW.fb cs b off hc⟩
 | .bool _,_,hr=>hr
 | .int _ _,_,hr=>hr
 | .str _,_,hr=>hr
 | .nilp,_,hr=>hr
 | .mv _,_,hr=>hr
 | .nilm,_,hr=>hr
 | .clo _ _,_,hr=>hr
 | .mth _ _,_,hr=>hr
 | .nilf,_,hr=>hr
 | .ifc _ _,_,hr=>hr
 | .nili,_,hr=>hr
theorem aN.fb{F:Nat->Nat}{w:World}:∀ (cs:List D) (l:List Value),aN F w cs l->aN F w (l5 cs) l
 | [],_,hr=>hr
 | c::r,_,hr=>by
  obtain⟨x,l',rfl,hc,hl⟩:=hr;exact⟨x,l',rfl,bq.fb c x hc,aN.fb r l' hl⟩
theorem bW.fb{F:Nat->Nat}{w:World}:∀ (cs:List D) (b off:Nat),bW F w b off cs->bW F w b off (l5 cs)
 | [],_,_,_=>trivial
 | c::r,b,off,hr=>by
  obtain⟨hf,⟨x,hx,hc⟩,hl⟩:=hr;exact⟨hf,⟨x,hx,bq.fb c x hc⟩,bW.fb r b (off+1) hl⟩
theorem cv.fb{F:Nat->Nat}{w:World}:∀ (es:List (List D)) (b off sz:Nat),cv F w b off sz es->cv F w b off sz (uy es)
 | [],_,_,_,_=>trivial
 | e::r,b,off,sz,hr=>by
  obtain⟨hn,he,hl⟩:=hr;exact⟨by rw[om];exact hn,bW.fb e b off he,cv.fb r b (off+sz) sz hl⟩
end
theorem aW.fb{P:Program}{f:FuncId}{ds:List D}{r:D}(h:aW P f ds r){r':D}(hr:PX.fb r=r'):aW P f ds r':=by
 subst hr;intro σ Y s;obtain⟨h1,h2⟩:=h Y s;refine⟨h1,fun cx hY L F bh w hh hv=>(h2 cx hY L F bh w hh hv).mono ?_⟩;rintro e w' ⟨x,rfl,v,h',s',L',F',⟨⟨rfl,rfl⟩,rfl⟩,sa,hx,tr,hp⟩;exact⟨x,rfl,_,_,_,L',F',⟨⟨rfl,rfl⟩,rfl⟩,sa,bq.fb r x hx,tr,hp⟩
theorem wL{P:Program}{f:FuncId}{e:Env}{h:ar}{d:Option Nat}{args args':List V}{K:List Wr->Prop}(hr:∀ (yv:Option Nat) (L:Loc) (F:Nat->Nat) (w:World) (l:List Value),ak yv L F w args l->ak yv L F w args' l)
  (hk:cN P e h d f args' K):cN P e h d f args K:=by
 obtain⟨ws,h1,h2⟩:=hk;exact⟨ws,h1,h2.1,fun {σ} cx yS r m L F st a w bh he hh hg VS hv=>h2.2 cx yS r m L F st a w bh he hh hg VS (hr _ _ _ _ _ hv)⟩
end Go.PX
namespace Go.PX
open Go.RowKit
section
variable {κ : Type} [DecidableEq κ] (kd : κ -> D)
def pj(m:List (κ×Int)):List (D×D):=m.map fun p=>(kd p.1,.int .i64 p.2)
def getM:List (κ×Int)->κ->Option Int
 | [],_=>none
 | (u,x)::r,t=>if t=u then some x else getM r t
def qm:List (κ×Int)->κ->Int->List (κ×Int)
 | [],t,v=>[(t,v)]
 | (u,x)::r,t,v=>if t=u then (t,v)::r else (u,x)::qm r t v
variable {kd}
theorem tf(hs:∀ a b,gO (kd a) (kd b)=some (decide (a=b))){t:κ}:∀ {m:List (κ×Int)},getM m t=none -> ∀ n,findD (kd t) (pj kd m) n=some none
 | [],_,n=>rfl
 | (u,x)::r,h,n=>by
  rw[getM]at h;split at h
  ·cases h
  ·rename_i hu
   show(match gO (kd t) (kd u) with
    | some true=>some (some (n,D.int .i64 x))
    | some false=>findD (kd t) (pj kd r) (n+1)
    | none=>none)=_
   rw[hs,decide_eq_false hu];exact tf hs h (n+1)
theorem oE(hs:∀ a b,gO (kd a) (kd b)=some (decide (a=b))){t:κ}{v:Int}:∀ {m:List (κ×Int)},getM m t=some v -> ∀ n,∃ i,i<m.length/\findD (kd t) (pj kd m) n=some (some (n+i,.int .i64 v))/\(∀ y,(pj kd m).set i (kd t,.int .i64 y)=pj kd (qm m t y))/\ng (pj kd m) i (kd t)=pj kd m /\ ∀ y,nh (pj kd m) i (.int .i64 y)=pj kd (qm m t y)
 | [],h,n=>by cases h
 | (u,x)::r,h,n=>by
  rw[getM]at h;split at h
  ·rename_i hu
   cases h;subst hu;refine⟨0,by simp,?_,fun y=>?_,rfl,fun y=>?_⟩
   ·show(match gO (kd t) (kd t) with
     | some true=>some (some (n,D.int .i64 v))
     | some false=>findD (kd t) (pj kd r) (n+1)
     | none=>none)=_
    rw[hs,decide_eq_true rfl];rfl
   ·rw[qm,if_pos rfl];rfl
   ·rw[qm,if_pos rfl];rfl
  ·rename_i hu
   obtain⟨i,h0,h1,h2,h3,h4⟩:=oE hs h (n+1);refine⟨i+1,by simp;omega,?_,fun y=>?_,?_,fun y=>?_⟩
   ·show(match gO (kd t) (kd u) with
     | some true=>some (some (n,D.int .i64 x))
     | some false=>findD (kd t) (pj kd r) (n+1)
     | none=>none)=_
    rw[hs,decide_eq_false hu];show findD (kd t) (pj kd r) (n+1)=_;rw[h1,show n+1+i=n+(i+1) by omega]
   ·rw[qm,if_neg hu]
    show(kd u,D.int .i64 x)::(pj kd r).set i (kd t,.int .i64 y)=(kd u,D.int .i64 x)::pj kd (qm r t y);rw[h2 y]
   ·show(kd u,D.int .i64 x)::ng (pj kd r) i (kd t)=_
    rw[h3];rfl
   ·rw[qm,if_neg hu]
    show(kd u,D.int .i64 x)::nh (pj kd r) i (.int .i64 y)=(kd u,D.int .i64 x)::pj kd (qm r t y);rw[h4 y]
theorem wb{t:κ}(y:Int):∀ {m:List (κ×Int)},getM m t=none->pj kd m ++ [(kd t,.int .i64 y)]=pj kd (qm m t y)
 | [],_=>rfl
 | (u,x)::r,h=>by
  rw[getM]at h;split at h
  ·cases h
  ·rename_i hu
   rw[qm,if_neg hu];show(kd u,D.int .i64 x)::(pj kd r ++ [(kd t,.int .i64 y)])=_;rw[wb y h];rfl
theorem tv(m:List (κ×Int))(t u:κ)(y:Int):getM (qm m t y) u=if u=t then some y else getM m u:=by
 induction m with
 | nil=>rfl
 | cons p r ih=>
  obtain⟨w,x⟩:=p;rw[qm];split
  ·rename_i h
   subst h;simp only[getM];split<;>rfl
  ·rename_i h
   simp only[getM];split
   ·rename_i h2
    subst h2;rw[if_neg (fun e=>h e.symm)]
   ·exact ih
end
end Go.PX
namespace Go.PX
open Go.Proofs
structure Pt where
 x:Int
 y:Int
def Pt.sub(a b:Pt):Pt:=⟨a.x-b.x,a.y-b.y⟩
def aC(o w:Pt):Int:=o.x*w.y-o.y*w.x
def zU(v:Pt):Int:=v.x*v.x+v.y*v.y
theorem sq_nonneg(a:Int):0<=a*a:=by
 rcases Int.le_total 0 a with h|h
 ·exact Int.mul_nonneg h h
 ·have:=Int.mul_nonneg (show 0 <= -a by omega) (show 0 <= -a by omega)
  rw[Int.neg_mul_neg]at this;exact this
def Pt.cells(p:Pt):List D:=[i64 p.x,i64 p.y]
def Pt.d(p:Pt):D:=.agg p.cells
def e8(l:List Pt):D:=.vs (l.map Pt.cells)
structure eE(m:Int)(p:Pt):Prop where
 x : -m<=p.x/\p.x<=m
 y : -m<=p.y/\p.y<=m
theorem eE.mono{m n:Int}{p:Pt}(h:eE m p)(Kn:m<=n):eE n p:=⟨by have:=h.x;omega,by have:=h.y;omega⟩
theorem eE.sub{m n:Int}{a b:Pt}(ha:eE m a)(hb:eE n b):eE (m+n) (a.sub b):=by
 have h1:=ha.x;have h2:=ha.y;have h3:=hb.x;have h4:=hb.y;exact⟨by show -(m+n)<=a.x-b.x/\a.x-b.x<=m+n;omega,by show -(m+n)<=a.y-b.y/\a.y-b.y<=m+n;omega⟩
theorem j9{a b:Int}(ha : -1000000000<=a/\a<=1000000000)(hb : -1000000000<=b/\b<=1000000000) : -1000000000000000000<=a*b/\a*b<=1000000000000000000:=by
 have:=AN (a:=a) (b:=b) 1000000000 1000000000 (by omega) (by omega);simpa using this
theorem JB(a b:Pt)(ha:eE 1000000000000 a)(hb:eE 1000000000000 b):aW Tryz.prog 150 [a.d,b.d] (b.sub a).d:=by
 refine aA Tryz.func150 rfl (ft:=No) 2 fun {σ} Y st=>?_;conv=>whnf
 have h1:=ha.x;have h2:=ha.y;have h3:=hb.x;have h4:=hb.y;refine ab ?_;conv=>whnf
 refine ab ?_;conv=>whnf
 exact af
theorem LX(o w:Pt)(ho:eE 1000000000 o)(hw:eE 1000000000 w):aW Tryz.prog 164 [o.d,w.d] (i64 (aC o w)):=by
 refine aA Tryz.func164 rfl (ft:=Nz) 2 fun {σ} Y st=>?_;conv=>whnf
 have h1:=j9 ho.x hw.y;have h2:=j9 ho.y hw.x;refine ab ?_;conv=>whnf
 refine ab ?_;conv=>whnf
 refine ab ?_;conv=>whnf
 exact af
theorem L8(l:List Pt)(g:FuncId)(aM:List D)(p:Pt->Bool)(hl:l.length<4000000000000000000)(hp:∀ x∈l,aW Tryz.prog g (.agg x.cells::aM) (.bool (p x))) :
  aW Tryz.prog 165 [e8 l,.clo g aM] (i64 (indexOf p l 0)):=by
 refine aA Tryz.func165 rfl (ft:=NA) 2 fun {σ} Y st=>?_;conv=>whnf
 refine aZ (T:=tys) ao (by exact ah mixed ao (by decide +kernel)) l (fun i (_:Unit)=>⟨[(0,.d (e8 l)),(1,.d (.clo g aM)),(7,.d (i64 l.length)),(8,.d (i64 i))],[],st⟩) (fun i r _=>indexOf p l 0=indexOf p r i) () av rfl ?_ ?_
 ·intro i x r _ hx hi hr he
  rw[indexOf]at he;conv=>whnf
  refine ai (fun _=>?_) (fun h=>absurd hi (by simpa using h));conv=>whnf
  refine ax hx ?_;conv=>whnf
  refine ae (hp x (List.mem_of_getElem? hx)) rfl rfl ?_;conv=>whnf
  refine ai (fun h1=>?_) (fun h1=>?_)
  ·conv=>whnf
   rw[he,if_pos h1];exact af
  ·rw[if_neg (by simp[h1])]at he
   conv=>whnf
   refine ab ?_;conv=>whnf
   exact⟨(),he,av⟩
 ·intro _ he
  conv=>whnf
  refine ai (fun h=>absurd h (by simp)) (fun _=>?_);conv=>whnf
  rw[he];exact af
theorem LV(l:List Pt)(g:FuncId)(aM:List D)(p:Pt->Bool)(hl:l.length<4000000000000000000)(hp:∀ x∈l,aW Tryz.prog g (.agg x.cells::aM) (.bool (p x))) :
  aW Tryz.prog 159 [e8 l,.clo g aM] (.bool (l.any p)):=by
 refine aA Tryz.func159 rfl (ft:=Nv) 2 fun {σ} Y st=>?_;conv=>whnf
 refine ae (L8 l g aM p hl hp) rfl rfl ?_;conv=>whnf
 refine al 0 rfl ⟨⟨?_,rfl⟩,rfl⟩;rw[<- eY p l 0 (by omega)];rfl
theorem GO(lo hi a b c d:Int):aW Tryz.prog 146 [i64 lo,i64 hi,.vs [[i64 a],[i64 b],[i64 c],[i64 d]]] (.bool (!((bc a lo hi&&bc b lo hi)&&(bc c lo hi&&bc d lo hi)))):=by
 exact aW.cast (Eu lo hi [a,b,c,d] (by simp)) (by simp only[List.any_cons,List.any_nil,l4];cases bc a lo hi<;>cases bc b lo hi<;>cases bc c lo hi<;>cases bc d lo hi<;>rfl)
def bS(m:Int)(p:Pt):Bool:=bc p.x (-m) m&&bc p.y (-m) m
theorem within_iff{m:Int}{p:Pt}:bS m p=true↔eE m p:=by
 unfold bS;rw[Bool.and_eq_true,bg,bg];exact⟨fun⟨a,b⟩=>⟨a,b⟩,fun⟨a,b⟩=>⟨a,b⟩⟩
theorem LW(p:Pt)(m:Int)(hm:0<=m/\m<=1000000000):aW Tryz.prog 160 [.agg p.cells,.ref [i64 m]] (.bool (!bS m p)):=by
 refine aA Tryz.func160 rfl (ft:=Nw) 2 fun {σ} Y st=>?_;conv=>whnf
 refine aK ((-m)) (by(try dsimp only);omega) (wrap_i64 (by(try dsimp only);omega)) ?_;conv=>whnf
 refine ag (BG (-m) m p.x p.y) rfl 1 rfl ?_;conv=>whnf
 exact af
theorem JA(m:Int)(l:List Pt)(hm:0<=m/\m<=1000000000)(hl:l.length<4000000000000000000):aW Tryz.prog 148 [i64 m,e8 l] (.bool (l.any fun p=>!bS m p)):=by
 refine aA Tryz.func148 rfl (ft:=Nm) 2 fun {σ} Y st=>?_;conv=>whnf
 refine ag (ds:=[e8 l,.clo 160 [.ref [i64 m]]]) (LV l 160 [.ref [i64 m]] (fun p=>!bS m p) hl fun p _=>LW p m hm) rfl 2 rfl ?_;conv=>whnf
 exact af
structure ow where
 x:Span
 y:Span
 deriving DecidableEq
def ow.cells(b:ow):List D:=[i64 b.x.lo,i64 b.x.hi,i64 b.y.lo,i64 b.y.hi]
def ow.d(b:ow):D:=.agg b.cells
def mL(m:Int)(b:ow):Int:=
 if (bc b.x.lo (-m) m&&bc b.x.hi (-m) m)&&(bc b.y.lo (-m) m&&bc b.y.hi (-m) m) then (if bc (b.x.hi-b.x.lo) 0 40&&bc (b.y.hi-b.y.lo) 0 40 then 0 else 2) else 7
theorem Qw(b:ow)(m:Int)(hm:0<=m/\m<=1000000000):aW Tryz.prog 163 [b.d,i64 m] (i64 (mL m b)):=by
 refine aA Tryz.func163 rfl (ft:=Ny) 2 fun {σ} Y st=>?_;conv=>whnf
 refine aK ((-m)) (by(try dsimp only);omega) (wrap_i64 (by(try dsimp only);omega)) ?_;conv=>whnf
 refine ag (GO (-m) m b.x.lo b.x.hi b.y.lo b.y.hi) rfl 1 rfl ?_;conv=>whnf
 unfold mL
 cases h1:(bc b.x.lo (-m) m&&bc b.x.hi (-m) m)&&(bc b.y.lo (-m) m&&bc b.y.hi (-m) m) with
 | false=>
  conv=>whnf
  exact af
 | true=>
  simp only[Bool.and_eq_true,bg]at h1;conv=>whnf
  refine ab ?_;conv=>whnf
  refine ab ?_;conv=>whnf
  refine ag (BG 0 40 (b.x.hi-b.x.lo) (b.y.hi-b.y.lo)) rfl 1 rfl ?_
  cases h2:bc (b.x.hi-b.x.lo) 0 40&&bc (b.y.hi-b.y.lo) 0 40 with
  | false=>
   conv=>whnf
   exact af
  | true=>
   conv=>whnf
   exact af
structure jX where
 day:Int
 qH:Int
 deriving DecidableEq
def jX.cells(p:jX):List D:=[i64 p.day,i64 p.qH]
def nC(l:List jX):D:=.vs (l.map jX.cells)
structure Mark where
 name:ByteArray
 mE:Pt
 fP:List jX
def Mark.cells(m:Mark):List D:=[.str m.name,i64 m.mE.x,i64 m.mE.y,nC m.fP]
def xD(l:List Mark):D:=.vs (l.map Mark.cells)
structure ed where
 name:ByteArray
 aw:List Pt
 b0:ow
def ed.cells(s:ed):List D:=[.str s.name,e8 s.aw,i64 s.b0.x.lo,i64 s.b0.x.hi,i64 s.b0.y.lo,i64 s.b0.y.hi]
def ed.d(s:ed):D:=.agg s.cells
def rf(l:List ed):D:=.vs (l.map ed.cells)
structure vn where
 marks:List Mark
 cB:List ed
def vn.cells(c:vn):List D:=[xD c.marks,rf c.cB]
def vn.d(c:vn):D:=.agg c.cells
def m6:Int->List jX->Int
 | _,[]=>0
 | last,p::r=>if bc p.day 0 40000&&bc p.qH 0 4 then (if p.day<=last then 2 else m6 p.day r) else 7
def fy(l:List jX):Int:=if bc l.length 1 4 then m6 (-1) l else 3
set_option maxHeartbeats 1000000 in
theorem Qp(l:List jX):aW Tryz.prog 156 [nC l] (i64 (fy l)):=by
 refine aA Tryz.func156 rfl (ft:=Ns) 1 fun {σ} Y st=>?_;conv=>whnf
 refine ag (pO 1 4 l.length) rfl 1 (by simp;rfl) ?_;unfold fy
 cases h:bc (l.length:Int) 1 4 with
 | false=>
  conv=>whnf
  exact af
 | true=>
  rw[bg]at h;conv=>whnf
  refine aZ (T:=tys) ao (by exact ah mixed ao (by decide +kernel)) l (fun i (last:Int)=>⟨[(2,.d (i64 0)),(3,.d (i64 last)),(10,.d (nC l)),(11,.d (i64 l.length)),(12,.d (i64 i))],[],st⟩) (fun i r last=>m6 (-1) l=m6 last r) (-1) av rfl ?_ ?_
  ·rintro i p r last hp hi hr he
   rw[m6]at he;conv=>whnf
   refine ai (fun _=>?_) (fun h=>absurd hi (by simpa using h));conv=>whnf
   refine ax hp ?_;conv=>whnf
   refine ag (pO 0 40000 p.day) rfl 1 rfl ?_
   cases h1:bc p.day 0 40000 with
   | false=>
    rw[h1,Bool.false_and,if_neg (by simp)]at he;rw[he];conv=>whnf
    exact af
   | true=>
    conv=>whnf
    refine ag (pO 0 4 p.qH) rfl 1 rfl ?_
    cases h2:bc p.qH 0 4 with
    | false=>
     rw[h1,h2,Bool.and_false,if_neg (by simp)]at he;rw[he];conv=>whnf
     exact af
    | true=>
     rw[h1,h2,Bool.and_true,if_pos rfl]at he;conv=>whnf
     refine ai (fun h3=>?_) (fun h3=>?_)
     ·rw[if_pos (of_decide_eq_true h3)]at he
      rw[he];conv=>whnf
      exact af
     ·rw[if_neg (of_decide_eq_false h3)]at he
      conv=>whnf
      refine ab ?_;conv=>whnf
      exact⟨p.day,he,av⟩
  ·rintro last he
   conv=>whnf
   refine ai (fun h=>absurd h (by simp)) (fun _=>?_);conv=>whnf
   rw[he];exact af
def cq:List Pt:=[⟨0,1000⟩,⟨195,981⟩,⟨383,924⟩,⟨556,831⟩,⟨707,707⟩,⟨831,556⟩,⟨924,383⟩,⟨981,195⟩]
def qn:List D:=[i64 0,i64 1000,i64 195,i64 981,i64 383,i64 924,i64 556,i64 831,i64 707,i64 707,i64 831,i64 556,i64 924,i64 383,i64 981,i64 195]
theorem Qn:aW Tryz.prog 147 [] (.agg qn):=by
 refine aA Tryz.func147 rfl (ft:=Nl) 0 fun {σ} Y st=>?_;conv=>whnf
 exact af
def Dq(v:Pt):Pt:=⟨v.y,-v.x⟩
def xQ:Nat->Pt->Pt
 | 0,v=>v
 | n+1,v=>xQ n (Dq v)
def pb(p:Int):Pt:=xQ (p/8).toNat ((cq[(p%8).toNat]?).getD ⟨0,0⟩)
def Po(p:Int):Int:=if bc p 0 31 then 0 else 7
def uN(p:Int):Pt:=if bc p 0 31 then pb p else ⟨0,0⟩
theorem Sy{k:Nat}(hk:k<8){t:nQ}(ht:t.isAgg=true)(hs:t.size=2){K:V->Prop}(h:K (.d ((cq[k]?).getD ⟨0,0⟩).d)):Cells.oI t (.dd qn) (k*2) K:=by
 unfold Cells.oI;rw[ht,hs];have e:∀ k,k<8->Nat.ble (k*2+2) (Cells.dd qn).len=true/\(Cells.dd qn).sub (k*2) 2 = .d ((cq[k]?).getD ⟨0,0⟩).d:=by
  intro k hk
  match k,hk with
  | 0,_=>exact⟨rfl,rfl⟩
  | 1,_=>exact⟨rfl,rfl⟩
  | 2,_=>exact⟨rfl,rfl⟩
  | 3,_=>exact⟨rfl,rfl⟩
  | 4,_=>exact⟨rfl,rfl⟩
  | 5,_=>exact⟨rfl,rfl⟩
  | 6,_=>exact⟨rfl,rfl⟩
  | 7,_=>exact⟨rfl,rfl⟩
 obtain⟨e1,e2⟩:=e k hk;show eG _ _;rw[e2];exact bo e1 h
theorem ux{k:Nat}(hk:k<8):eE 1000 ((cq[k]?).getD ⟨0,0⟩):=by
 match k,hk with
 | 0,_=>exact⟨by decide,by decide⟩
 | 1,_=>exact⟨by decide,by decide⟩
 | 2,_=>exact⟨by decide,by decide⟩
 | 3,_=>exact⟨by decide,by decide⟩
 | 4,_=>exact⟨by decide,by decide⟩
 | 5,_=>exact⟨by decide,by decide⟩
 | 6,_=>exact⟨by decide,by decide⟩
 | 7,_=>exact⟨by decide,by decide⟩
set_option maxHeartbeats 1000000 in
theorem Qi(p:Int):aW Tryz.prog 133 [i64 p] (.tup [(uN p).d,i64 (Po p)]):=by
 refine aA Tryz.func133 rfl (ft:=M8) 1 fun {σ} Y st=>?_;conv=>whnf
 refine ag (pO 0 31 p) rfl 1 rfl ?_;unfold uN Po
 cases h:bc p 0 31 with
 | false=>
  conv=>whnf
  exact af
 | true=>
  rw[bg]at h;conv=>whnf
  refine ae (Qn) rfl rfl ?_;conv=>whnf
  obtain⟨k,hk,UI⟩:∃ k:Nat,p.tmod 8=k/\k<8:=⟨(p.tmod 8).toNat,by
   rw[Int.tmod_eq_emod_of_nonneg h.1];omega,by rw[Int.tmod_eq_emod_of_nonneg h.1];omega⟩
  obtain⟨m,hm,Xk⟩:∃ m:Nat,p.tdiv 8=m/\m<4:=⟨(p.tdiv 8).toNat,by
   rw[Int.tdiv_eq_ediv_of_nonneg h.1];omega,by rw[Int.tdiv_eq_ediv_of_nonneg h.1];omega⟩
  have hv:pb p=xQ m ((cq[k]?).getD ⟨0,0⟩):=by
   rw[Int.tmod_eq_emod_of_nonneg h.1]at hk;rw[Int.tdiv_eq_ediv_of_nonneg h.1]at hm;unfold pb;rw[hk,hm,Int.toNat_natCast,Int.toNat_natCast]
  have hq:=ux UI;rw[hk];refine ai (fun _=>?_) (fun h2=>absurd h2 (by simp;omega));refine Sy UI rfl rfl ?_;generalize (cq[k]?).getD ⟨0,0⟩=q at hv hq ⊢;conv=>whnf
  refine aK (m:Int) hm (wrap_i64 (by omega)) ?_;conv=>whnf
  refine aZ (T:=tys) ao (by exact ah mixed ao (by decide +kernel)) (List.range m) (fun i (v:Pt)=>⟨[(2,.ptr 2 0),(3,.d (i64 0)),(4,.ptr 4 0),(14,.d (i64 m)),(15,.d (i64 i))],[(2,.box (.dd [i64 0,i64 0])),(4,.box (.dd v.cells))],st⟩)
   (fun i r v=>pb p=xQ r.length v/\eE 1000 v) q av ⟨by rw[hv];simp,hq⟩ ?_ ?_
  ·rintro i y r v hy hi hr ⟨he,E1⟩
   have hx:=E1.x;have WN:=E1.y;have V6:i<m:=by simpa using hi
   conv=>whnf
   refine ai (fun _=>?_) (fun h=>absurd V6 (by have:=of_decide_eq_false h;omega));conv=>whnf
   refine aK ((-v.x)) (by(try dsimp only);omega) (wrap_i64 (by(try dsimp only);omega)) ?_;conv=>whnf
   refine ab ?_;conv=>whnf
   exact⟨Dq v,⟨by rw[he];rfl,⟨WN,by show -1000 <= -v.x /\ -v.x<=1000;omega⟩⟩,av⟩
  ·rintro v ⟨he,_⟩
   have he:pb p=v:=he;rw[he];conv=>whnf
   refine ai (fun h=>absurd h (by simp)) (fun _=>?_);conv=>whnf
   exact af
def I8(x:Pt×Pt):D:=.agg (x.1.cells++x.2.cells)
def I9(x:Pt×Pt):List V×ar:=([.d (I8 x)],[])
def md:Pt->List Pt->List (Pt×Pt)
 | _,[]=>[]
 | a,p::r=>(a,p.sub a)::md p r
def ze(l:List Pt):Pt:=(l[l.length-1]?).getD ⟨0,0⟩
def iP(s:ed):List (Pt×Pt):=md (ze s.aw) s.aw
theorem Iv(s:ed):aW Tryz.prog 149 [s.d] (.clo 161 [.ref s.cells]):=by
 refine aA Tryz.func149 rfl (ft:=Nn) 1 fun {σ} Y st=>?_;conv=>whnf
 exact al 1 rfl ⟨⟨rfl,rfl⟩,rfl⟩
def Ey:FT:=⟨Ex.ks,cut Ex.tb 4⟩
def O1:RT:=match get Ex.tb 4 with
 | some r=>r
 | none=>⟨[],[]⟩
theorem wI(s:ed)(hl:0<s.aw.length)(Xj:s.aw.length<1000000)(hp:∀ p∈s.aw,eE 1000000000000 p):Yields Tryz.prog 161 [.ref s.cells] ((iP s).map I9):=by
 intro γ Y g0 Q fF;refine ek mixed ao Tryz.func161 rfl (ft:=Ey) (args:=[.yld,.d (.ref s.cells)]) (show uQ Ey Tryz.f161 2=true from by decide +kernel) ?_;replace fF:=fF.np;generalize Y.np=Y at fF ⊢;obtain⟨q,hq⟩:∃ q,s.aw[s.aw.length-1]?=some q:=⟨s.aw[s.aw.length-1]'(by omega),by simp⟩;conv=>whnf
 refine aK ((s.aw.length-1:Nat):Int) (by simp;omega) (wrap_i64 (by omega)) ?_;conv=>whnf
 refine ax hq ?_;conv=>whnf
 have Wy:iP s=md q s.aw:=by unfold iP ze;rw[hq];rfl
 rw[Wy]at fF;have Lu:eE 1000000000000 q:=hp q (List.mem_of_getElem? hq);refine bV (T:=tys) ao (by exact ah mixed ao (by decide +kernel)) (α:=Nat×Pt×γ)
  (fun x=>⟨[(0,.yld),(3,.ptr 3 0),(18,.d (e8 s.aw)),(19,.d (i64 s.aw.length)),(20,.d (i64 x.1))],[(3,.box (.dd x.2.1.cells))],x.2.2⟩)
  (fun x=>x.1<=s.aw.length/\eE 1000000000000 x.2.1/\iterate Y ((md x.2.1 (s.aw.drop x.1)).map I9) x.2.2 Q) (fun x=>s.aw.length-x.1) (0,q,g0) ?wk ⟨Nat.zero_le _,Lu,by simpa using fF⟩ ?_
 case wk=>exact av
 clear fF g0;rintro ⟨i,a,g0⟩ ⟨hi,ha,fF⟩;simp only at hi ha fF;conv=>whnf
 refine ai (fun h1=>?_) (fun h1=>?_)
 ·have h1:i<s.aw.length:=by have:=of_decide_eq_true h1;simp at this;omega
  obtain⟨p,yd⟩:∃ p,s.aw[i]?=some p:=⟨s.aw[i],by simp⟩;have Ov:eE 1000000000000 p:=hp p (List.mem_of_getElem? yd);have SX:s.aw.drop i=p::s.aw.drop (i+1):=by
   rw[List.drop_eq_getElem_cons h1];rw[List.getElem?_eq_getElem h1]at yd;rw[Option.some.inj yd]
  rw[SX,md,List.map_cons]at fF;conv=>whnf
  refine ax yd ?_;conv=>whnf
  refine ym mixed ao O1 6 (by decide +kernel) (by decide +kernel) ?_;conv=>whnf
  refine aq (ds:=[a.d,p.d]) (JB a p ha Ov) rfl 1 rfl ?_;conv=>whnf
  refine wT (ds:=[I8 (a,p.sub a)]) fF rfl rfl (fun s' Kk=>?_) (fun s' DL=>?_)
  ·conv=>whnf
   refine ab ?_;conv=>whnf
   exact⟨(i+1,p,s'),by simp only;omega,⟨by simp only;omega,Ov,Kk⟩,av⟩
  ·conv=>whnf
   exact al 0 rfl ⟨rfl,DL⟩
 ·have h1:¬ i<s.aw.length:=by have:=of_decide_eq_false h1;simp at this;omega
  rw[List.drop_of_length_le (by omega)]at fF;conv=>whnf
  exact al 0 rfl ⟨rfl,fF⟩
def kF(x:Pt×Pt):List Pt->Int->Int
 | [],n=>n
 | p::r,n=>kF x r (if aC x.2 (p.sub x.1)<=0 then n+1 else n)
def gP(s:ed)(x:Pt×Pt):Bool:=decide (kF x s.aw 0=2) && !(decide (x.2.x=0)&&decide (x.2.y=0))
def gY(s:ed):Int:=
 if bc s.aw.length 3 8 then (if (s.aw.any fun p=>!bS 10000 p) then 7 else if mL 500 s.b0=0 then (if (iP s).all (gP s) then 0 else 9) else mL 500 s.b0) else 3
theorem tY{m:Int}:∀ {l:List Pt} {a:Pt},eE m a->(∀ p∈l,eE m p) -> ∀ x∈md a l,eE m x.1/\eE (m+m) x.2
 | [],_,_,_,x,hx=>by cases hx
 | p::r,a,ha,hl,x,hx=>by
  rw[md]at hx;have hp:=hl p (by simp);rcases List.mem_cons.1 hx with rfl|hx
  ·exact⟨ha,hp.sub ha⟩
  ·exact tY hp (fun q hq=>hl q (by simp[hq])) x hx
theorem Fw{m:Int}{l:List Pt}(h0:0<l.length)(hl:∀ p∈l,eE m p):eE m (ze l):=by
 unfold ze;have h1:l.length-1<l.length:=by omega
 rw[List.getElem?_eq_getElem h1];exact hl _ (List.getElem_mem h1)
theorem tX{m:Int}{s:ed}(h0:0<s.aw.length)(hl:∀ p∈s.aw,eE m p):∀ x∈iP s,eE m x.1/\eE (m+m) x.2:=tY (Fw h0 hl) hl
set_option maxHeartbeats 1000000 in
theorem Qq(s:ed):aW Tryz.prog 157 [.agg s.cells] (i64 (gY s)):=by
 refine aA Tryz.func157 rfl (ft:=Nt) 1 fun {σ} Y st=>?_;conv=>whnf
 refine ag (pO 3 8 s.aw.length) rfl 1 (by simp;rfl) ?_
 cases h1:bc (s.aw.length:Int) 3 8 with
 | false=>
  have he:gY s=3:=by unfold gY;rw[h1];rfl
  rw[he];conv=>whnf
  exact af
 | true=>
  have NH:=h1;rw[bg]at h1;conv=>whnf
  refine ae (JA 10000 s.aw (by omega) (by omega)) rfl rfl ?_;conv=>whnf
  cases h2:s.aw.any fun p=>!bS 10000 p with
  | true=>
   have he:gY s=7:=by unfold gY;rw[NH,h2];rfl
   rw[he];conv=>whnf
   exact af
  | false=>
   have hp:∀ p∈s.aw,eE 10000 p:=by
    intro p hp;have:=List.any_eq_false.1 h2 p hp;exact within_iff.1 (by simpa using this)
   conv=>whnf
   refine ae (Qw s.b0 500 (by omega)) rfl rfl ?_;conv=>whnf
   refine ai (fun h3=>?_) (fun h3=>?_)
   ·have h3:¬ mL 500 s.b0=0:=by simpa using h3
    have he:gY s=mL 500 s.b0:=by unfold gY;rw[NH,h2,if_pos rfl,if_neg (by simp),if_neg h3]
    rw[he];conv=>whnf
    exact af
   ·have h3:mL 500 s.b0=0:=by simpa using h3
    have he:gY s=if (iP s).all (gP s) then 0 else 9:=by unfold gY;rw[NH,h2,if_pos rfl,if_neg (by simp),if_pos h3]
    rw[he];conv=>whnf
    refine ae (Iv s) rfl rfl ?_;conv=>whnf
    refine cO ao (by exact ah mixed ao (by decide +kernel)) (by exact ah mixed ao (by decide +kernel)) rfl 1500000 1600000 [1,2,13] (wI s (by omega) (by omega) (fun p h=>(hp p h).mono (by omega)))
     (fun(_:Unit)=>([(1500000,.box (.dd s.cells)),(1500001,.box (.dd [i64 0])),(1500002,.arr 1 (.dd [[i64 (s.aw.map Pt.cells).length]]))],st))
     (fun rest _=>(iP s).all (gP s)=rest.all (gP s) /\ ∀ x∈rest,eE 10000 x.1/\eE 20000 x.2) () rfl rfl rfl ⟨rfl,tX (by omega) hp⟩ ?_ ?_
    ·rintro ⟨a,b⟩ rest _ ⟨hk,hl⟩ Q Ab NP
     refine⟨⟨rfl,rfl⟩,?_⟩;obtain⟨ha,hb⟩:=hl (a,b) (by simp);simp only at ha hb;rw[List.all_cons]at hk;conv=>whnf
     refine aZ (T:=tys) ao (by exact ah mixed ao (by decide +kernel)) s.aw (fun i (n:Int)=>⟨[(1,.ptr 1500000 0),(2,.ptr 1500001 0),(4,.ptr 4 0),(5,.d (i64 n)),(32,.d (e8 s.aw)),(33,.d (i64 (s.aw.map Pt.cells).length)),(34,.d (i64 i))],[(1500000,.box (.dd s.cells)),(1500001,.box (.dd [i64 0])),(1500002,.arr 1 (.dd [[i64 (s.aw.map Pt.cells).length]])),(4,.box (.dd (a.cells++b.cells)))],st⟩) (fun i r n=>0<=n/\n<=i/\kF (a,b) s.aw 0=kF (a,b) r n) 0 av ⟨Int.le_refl _,by simp,rfl⟩ ?_ ?_
     ·rintro i p r n yd hi hr ⟨u2,Ko,Kp⟩
      rw[kF]at Kp;have Ov:=hp p (List.mem_of_getElem? yd);conv=>whnf
      refine ai (fun _=>?_) (fun h=>absurd hi (by simpa using h));conv=>whnf
      refine ax yd ?_;conv=>whnf
      refine aq (ds:=[a.d,p.d]) (JB a p (ha.mono (by omega)) (Ov.mono (by omega))) rfl 1 rfl ?_;conv=>whnf
      refine aq (ds:=[b.d,(p.sub a).d]) (LX b (p.sub a) (hb.mono (by omega)) ((Ov.sub ha).mono (by omega))) rfl 1 rfl ?_;conv=>whnf
      refine ai (fun h4=>?_) (fun h4=>?_)
      ·rw[if_pos (of_decide_eq_true h4)]at Kp
       conv=>whnf
       refine ab ?_;conv=>whnf
       conv=>whnf
       refine ab ?_;conv=>whnf
       exact⟨n+1,⟨by omega,by omega,Kp⟩,av⟩
      ·rw[if_neg (of_decide_eq_false h4)]at Kp
       conv=>whnf
       refine ab ?_;conv=>whnf
       exact⟨n,⟨by omega,by omega,Kp⟩,av⟩
     ·rintro n ⟨u2,Ko,Kp⟩
      conv=>whnf
      refine ai (fun h=>absurd h (by simp)) (fun _=>?_);conv=>whnf
      have NT:gP s (a,b)=false->(iP s).all (gP s)=false:=fun h=>by rw[hk,h,Bool.false_and]
      have TI:gP s (a,b)=(decide (n=2) && !(decide (b.x=0)&&decide (b.y=0))):=by
       unfold gP;rw[Kp,kF]
      cases h5:decide (n=2) with
      | false=>
       have h6:=NT (by rw[TI,h5];rfl);conv=>whnf
       refine⟨[(1500000,.box (.dd s.cells)),(1500001,.box (.dd [i64 9])),(1500002,.arr 1 (.dd [[i64 (s.aw.map Pt.cells).length]]))],st,av,rfl,NP _ _ _ ?_⟩;conv=>whnf
       rw[h6];exact af
      | true=>
       conv=>whnf
       refine ai (fun h6=>?_) (fun h6=>?_)
       ·have h6:=NT (by rw[TI,h5];rw[Bool.and_true]at h6;rw[h6];rfl)
        conv=>whnf
        refine⟨[(1500000,.box (.dd s.cells)),(1500001,.box (.dd [i64 9])),(1500002,.arr 1 (.dd [[i64 (s.aw.map Pt.cells).length]]))],st,av,rfl,NP _ _ _ ?_⟩;conv=>whnf
        rw[h6];exact af
       ·conv=>whnf
        refine⟨(),av,rfl,Ab _ ⟨?_,fun x hx=>hl x (by simp[hx])⟩⟩;rw[hk,TI,h5];rw[Bool.and_true]at h6;rw[h6];rfl
    ·rintro _ ⟨hk,_⟩
     rw[hk];conv=>whnf
     exact af
abbrev sO:=List (ByteArray×Int)
def jV(m:sO)(n:ByteArray):sO:=qm m n ((getM m n).getD 0+1)
def c8(m:sO)(n:ByteArray):Int:=if gW n then (if (getM m n).getD 0+1>1 then 5 else 0) else 6
def zn(m:sO):ar:=[(1000000,.box (.vv [.mp 1000001])),(1000001,.map (pj D.str m))]
theorem uD(a b:ByteArray):gO (.str a) (.str b)=some (decide (a=b)):=rfl
theorem yF(m:sO)(n:ByteArray):∃ i,findD (.str n) (pj D.str (jV m n)) 0=some (some (i,i64 ((getM m n).getD 0+1))):=by
 obtain⟨i,_,h1,_⟩:=oE (kd:=D.str) uD (t:=n) (v:=(getM m n).getD 0+1) (m:=jV m n) (by unfold jV;rw[tv,if_pos rfl]) 0;exact⟨0+i,h1⟩
theorem Md(m:sO)(n:ByteArray)(hb:∀ v,getM m n=some v->0<=v/\v<1000000):Cr Tryz.prog 155 [.d (.str n),.ptr 1000000 0] (zn m) fun v h'=>v = .d (i64 (c8 m n))/\h'=zn (jV m n):=by
 intro σ Y s;refine ek mixed ao Tryz.func155 rfl (ft:=II) (args:=[.d (.str n),.ptr 1000000 0]) (show uQ II Tryz.f155 2=true from by decide +kernel) ?_;conv=>whnf
 cases hg:getM m n with
 | none=>
  have g1:=tf (kd:=D.str) uD hg 0;refine nW.mk _ g1 ?_;conv=>whnf
  refine ab ?_;conv=>whnf
  refine nW.mk _ g1 ?_;conv=>whnf
  have sy:pj D.str m ++ [(D.str n,i64 (0+1))]=pj D.str (jV m n):=(by rw[show i64 (0+1)=D.int .i64 1 from rfl,wb (kd:=D.str) 1 hg,jV,hg];rfl);obtain⟨j,hj⟩:=yF m n;refine ae (JK n) rfl rfl ?_;conv=>whnf
  cases hn:gW n with
  | false=>
   have he:c8 m n=6:=by unfold c8;rw[hn];rfl
   rw[he];conv=>whnf
   refine bY [] [.d (i64 6)] (zn (jV m n)) rfl ⟨rfl,congrArg (fun z=>some (Obj.map z)) sy,trivial⟩ rfl ⟨⟨rfl,rfl⟩,rfl⟩
  | true=>
   conv=>whnf
   refine nW.mk _ (show findD (.str n) (pj D.str m ++ [(D.str n,i64 (0+1))]) 0=some (some (j,i64 ((getM m n).getD 0+1))) from sy▸hj) ?_;conv=>whnf
   refine ai (fun h1=>?_) (fun h1=>?_)
   ·have he:c8 m n=5:=by unfold c8;rw[hn,if_pos rfl,if_pos (of_decide_eq_true h1)]
    rw[he];conv=>whnf
    refine bY [] [.d (i64 5)] (zn (jV m n)) rfl ⟨rfl,congrArg (fun z=>some (Obj.map z)) sy,trivial⟩ rfl ⟨⟨rfl,rfl⟩,rfl⟩
   ·have he:c8 m n=0:=by unfold c8;rw[hn,if_pos rfl,if_neg (of_decide_eq_false h1)]
    rw[he];conv=>whnf
    refine bY [] [.d (i64 0)] (zn (jV m n)) rfl ⟨rfl,congrArg (fun z=>some (Obj.map z)) sy,trivial⟩ rfl ⟨⟨rfl,rfl⟩,rfl⟩
 | some v=>
  obtain⟨i,_,g1,g3,_⟩:=oE (kd:=D.str) uD hg 0;have:=hb v hg;refine nW.mk _ g1 ?_;conv=>whnf
  refine ab ?_;conv=>whnf
  refine nW.mk _ g1 ?_;conv=>whnf
  have sy:(pj D.str m).set (0+i) (D.str n,i64 (v+1))=pj D.str (jV m n):=(by rw[Nat.zero_add];exact(g3 (v+1)).trans (by rw[jV,hg];rfl));obtain⟨j,hj⟩:=yF m n;refine ae (JK n) rfl rfl ?_;conv=>whnf
  cases hn:gW n with
  | false=>
   have he:c8 m n=6:=by unfold c8;rw[hn];rfl
   rw[he];conv=>whnf
   refine bY [] [.d (i64 6)] (zn (jV m n)) rfl ⟨rfl,congrArg (fun z=>some (Obj.map z)) sy,trivial⟩ rfl ⟨⟨rfl,rfl⟩,rfl⟩
  | true=>
   conv=>whnf
   refine nW.mk _ (show findD (.str n) ((pj D.str m).set (0+i) (D.str n,i64 (v+1))) 0=some (some (j,i64 ((getM m n).getD 0+1))) from sy▸hj) ?_;conv=>whnf
   refine ai (fun h1=>?_) (fun h1=>?_)
   ·have he:c8 m n=5:=by unfold c8;rw[hn,if_pos rfl,if_pos (of_decide_eq_true h1)]
    rw[he];conv=>whnf
    refine bY [] [.d (i64 5)] (zn (jV m n)) rfl ⟨rfl,congrArg (fun z=>some (Obj.map z)) sy,trivial⟩ rfl ⟨⟨rfl,rfl⟩,rfl⟩
   ·have he:c8 m n=0:=by unfold c8;rw[hn,if_pos rfl,if_neg (of_decide_eq_false h1)]
    rw[he];conv=>whnf
    refine bY [] [.d (i64 0)] (zn (jV m n)) rfl ⟨rfl,congrArg (fun z=>some (Obj.map z)) sy,trivial⟩ rfl ⟨⟨rfl,rfl⟩,rfl⟩
def yC(m:Mark):Bool:=!bS 30000 m.mE
def mU(ns:sO)(m:Mark):Int:=
 if c8 ns m.name=0 then (if yC m then 7 else fy m.fP) else c8 ns m.name
def gK:sO->Int->List Mark->(Int×Int) ⊕ sO
 | ns,_,[]=>.inr ns
 | ns,i,m::r=>if mU ns m=0 then gK (jV ns m.name) (i+1) r else .inl (i,mU ns m)
def l9(ns:sO)(s:ed):Int:=if c8 ns s.name=0 then gY s else c8 ns s.name
def jO:sO->Int->List ed->Int×Int×Int
 | _,_,[]=>(0,0,0)
 | ns,i,s::r=>if l9 ns s=0 then jO (jV ns s.name) (i+1) r else (2,i,l9 ns s)
def cC(c:vn):Int×Int×Int:=
 if c.marks.length>8 then (1,0,3) else match gK [] 0 c.marks with
 | .inl (i,e)=>(1,i,e)
 | .inr ns=>if c.cB.length>4 then (2,0,3) else jO ns 0 c.cB
def yl(ns:sO)(k:Nat):Prop:=∀ n v,getM ns n=some v->0<=v/\v<=k
theorem yl.inc{ns:sO}{k:Nat}(h:yl ns k)(n:ByteArray):yl (jV ns n) (k+1):=by
 intro u v hv;unfold jV at hv;rw[tv]at hv;split at hv
 ·cases hv
  cases hg:getM ns n with
  | none=>simp only[Option.getD_none];omega
  | some w=>have:=h n w hg;simp only[Option.getD_some];omega
 ·have:=h u v hv;omega
set_option maxHeartbeats 4000000 in
theorem L9(c:vn):aW Tryz.prog 145 [c.d] (.tup [i64 (cC c).1,i64 (cC c).2.1,i64 (cC c).2.2]):=by
 refine aA Tryz.func145 rfl (ft:=Nj) 1 fun {σ} Y st=>?_;conv=>whnf
 refine ai (fun h0=>?_) (fun h0=>?_)
 ·have h0:c.marks.length>8:=by have:=of_decide_eq_true h0;simp at this;omega
  have he:cC c=(1,0,3):=by unfold cC;rw[if_pos h0]
  rw[he];conv=>whnf
  exact af
 have h0:¬ c.marks.length>8:=by have:=of_decide_eq_false h0;simp at this;omega
 have he:cC c=match gK [] 0 c.marks with
  | .inl (i,e)=>(1,i,e)
  | .inr ns=>if c.cB.length>4 then (2,0,3) else jO ns 0 c.cB:=by unfold cC;rw[if_neg h0]
 conv=>whnf
 refine aZ (T:=tys) ao (by exact ah mixed ao (by decide +kernel)) c.marks (fun i (ns:sO)=>⟨[(1,.ptr 1 0),(6,.clo 155 [.ptr 5 0]),(18,.d (xD c.marks)),(19,.d (i64 (c.marks.map Mark.cells).length)),(20,.d (i64 i))],[(1,.box (.dd c.cells)),(5,.box (.vv [.mp 11])),(11,.map (pj D.str ns))],st⟩) (fun i r ns=>yl ns i/\gK [] 0 c.marks=gK ns i r) [] av ⟨fun n v h=>by simp[getM]at h,rfl⟩ ?_ ?_
 ·rintro i m r ns yV hi hr ⟨yc,hk⟩
  rw[gK]at hk;conv=>whnf
  refine ai (fun _=>?_) (fun h=>absurd hi (by simpa using h));conv=>whnf
  refine ax yV ?_;conv=>whnf
  refine jn (Md ns m.name (fun v hv=>by have:=yc _ v hv;omega)) [5,11] rfl ⟨_,_,rfl,rfl,_,_,rfl,rfl,rfl⟩ rfl ?_;conv=>whnf
  by_cases hf:c8 ns m.name=0;case neg=>
   have hm:mU ns m=c8 ns m.name:=by unfold mU;rw[if_neg hf]
   rw[hm,if_neg hf]at hk;have tD:cC c=(1,(i:Int),c8 ns m.name):=by rw[he,hk]
   rw[tD,decide_eq_false hf];conv=>whnf
   refine ai (fun h=>absurd h (by simp[hf])) (fun _=>?_);conv=>whnf
   refine ai (fun _=>?_) (fun h=>absurd h (by simp[hf]));conv=>whnf
   exact af
  rw[decide_eq_true hf];conv=>whnf
  refine ag (ds:=[i64 30000,e8 [m.mE]]) (JA 30000 [m.mE] (by omega) (by simp)) rfl 1 rfl ?_;have J6:([m.mE].any fun p=>!bS 30000 p)=yC m:=by simp[yC]
  rw[J6]
  cases UB:yC m with
  | true=>
   have hm:mU ns m=7:=by unfold mU;rw[if_pos hf,UB];rfl
   rw[hm,if_neg (by simp)]at hk;have tD:cC c=(1,(i:Int),7):=by rw[he,hk]
   rw[tD];conv=>whnf
   exact af
  | false=>
   have hm:mU ns m=fy m.fP:=by unfold mU;rw[if_pos hf,UB];rfl
   rw[hm]at hk;conv=>whnf
   refine ai (fun _=>?_) (fun h=>absurd h (by simp[hf]));conv=>whnf
   refine ae (Qp m.fP) rfl rfl ?_;conv=>whnf
   refine ai (fun hp=>?_) (fun hp=>?_)
   ·have hp:¬ fy m.fP=0:=by simpa using hp
    rw[if_neg hp]at hk;have tD:cC c=(1,(i:Int),fy m.fP):=by rw[he,hk]
    rw[tD];conv=>whnf
    exact af
   ·have hp:fy m.fP=0:=by simpa using hp
    rw[if_pos hp]at hk;conv=>whnf
    refine ab ?_;conv=>whnf
    exact⟨jV ns m.name,⟨yc.inc _,hk⟩,av⟩
 ·rintro ns ⟨yc,hk⟩
  have tD:cC c=if c.cB.length>4 then (2,0,3) else jO ns 0 c.cB:=by rw[he,hk,gK]
  conv=>whnf
  refine ai (fun h=>absurd h (by simp)) (fun _=>?_);conv=>whnf
  refine ai (fun h1=>?_) (fun h1=>?_)
  ·have h1:c.cB.length>4:=by have:=of_decide_eq_true h1;simp at this;omega
   rw[if_pos h1]at tD;rw[tD];conv=>whnf
   exact af
  have h1:¬ c.cB.length>4:=by have:=of_decide_eq_false h1;simp at this;omega
  rw[if_neg h1]at tD;conv=>whnf
  refine aZ (T:=tys) ao (by exact ah mixed ao (by decide +kernel)) c.cB (fun i (ns:sO)=>⟨[(1,.ptr 1 0),(6,.clo 155 [.ptr 5 0]),(52,.d (rf c.cB)),(53,.d (i64 (c.cB.map ed.cells).length)),(54,.d (i64 i))],[(1,.box (.dd c.cells)),(5,.box (.vv [.mp 11])),(11,.map (pj D.str ns))],st⟩) (fun i r ns=>yl ns (8+i)/\cC c=jO ns i r) ns av ⟨fun n v h=>by have:=yc n v h;omega,tD⟩ ?_ ?_
  ·rintro i m r ns yV hi hr ⟨yc,hk⟩
   rw[jO]at hk;conv=>whnf
   refine ai (fun _=>?_) (fun h=>absurd hi (by simpa using h));conv=>whnf
   refine ax yV ?_;conv=>whnf
   refine jn (Md ns m.name (fun v hv=>by have:=yc _ v hv;omega)) [5,11] rfl ⟨_,_,rfl,rfl,_,_,rfl,rfl,rfl⟩ rfl ?_;conv=>whnf
   by_cases hf:c8 ns m.name=0;case neg=>
    have hm:l9 ns m=c8 ns m.name:=by unfold l9;rw[if_neg hf]
    rw[hm,if_neg hf]at hk;rw[hk,decide_eq_false hf];conv=>whnf
    refine ai (fun _=>?_) (fun h=>absurd h (by simp[hf]));conv=>whnf
    exact af
   have hm:l9 ns m=gY m:=by unfold l9;rw[if_pos hf]
   rw[hm]at hk;rw[decide_eq_true hf];conv=>whnf
   refine ae (Qq m) rfl rfl ?_;conv=>whnf
   refine ai (fun hp=>?_) (fun hp=>?_)
   ·have hp:¬ gY m=0:=by simpa using hp
    rw[if_neg hp]at hk;rw[hk];conv=>whnf
    exact af
   ·have hp:gY m=0:=by simpa using hp
    rw[if_pos hp]at hk;conv=>whnf
    refine ab ?_;conv=>whnf
    exact⟨jV ns m.name,⟨yc.inc _,hk⟩,av⟩
  ·rintro ns ⟨yc,hk⟩
   rw[jO]at hk;rw[hk];conv=>whnf
   refine ai (fun h=>absurd h (by simp)) (fun _=>?_);conv=>whnf
   exact af
def m4(c:vn)(p:Pt):Int:=if (cC c).2.2=0 then (if bS 10000 p then 0 else 7) else (cC c).2.2
theorem Qt(c:vn)(p:Pt):aW Tryz.prog 135 [c.d,p.d] (i64 (m4 c p)):=by
 refine aA Tryz.func135 rfl (ft:=M9) 2 fun {σ} Y st=>?_;conv=>whnf
 refine ae (L9 c) rfl rfl ?_;conv=>whnf
 by_cases h0:(cC c).2.2=0;case neg=>
  have he:m4 c p=(cC c).2.2:=by unfold m4;rw[if_neg h0]
  rw[he,decide_eq_false h0];conv=>whnf
  exact af
 have he:m4 c p=if bS 10000 p then 0 else 7:=by unfold m4;rw[if_pos h0]
 rw[he,decide_eq_true h0];conv=>whnf
 refine ag (ds:=[i64 10000,e8 [p]]) (JA 10000 [p] (by omega) (by simp)) rfl 1 rfl ?_;have J6:([p].any fun p=>!bS 10000 p) = !bS 10000 p:=by simp
 rw[J6]
 cases bS 10000 p with
 | true=>
  conv=>whnf
  rw[h0];exact af
 | false=>
  conv=>whnf
  exact af
theorem En{n b:Int}(hb:0<b):(if n.tmod b<0 then n.tdiv b-1 else n.tdiv b)=n/b:=by
 rcases Int.lt_or_le n 0 with hn|hn
 ·have h1:=Int.mul_tdiv_add_tmod n b
  have h2 : -b<n.tmod b:=by
   have:=Int.tmod_lt_of_pos (-n) hb;rw[Int.neg_tmod]at this;omega
  have h3:n.tmod b<=0:=by
   have:=Int.tmod_nonneg b (show(0:Int) <= -n by omega);rw[Int.neg_tmod]at this;omega
  split
  ·rename_i h4
   refine Int.le_antisymm ?_ ?_
   ·rw[Int.le_ediv_iff_mul_le hb,Int.sub_mul,Int.mul_comm];omega
   ·have:n/b<n.tdiv b:=by
     rw[Int.ediv_lt_iff_lt_mul hb,Int.mul_comm];omega
    omega
  ·rename_i h4
   have h5:n.tmod b=0:=by omega
   refine Int.le_antisymm ?_ ?_
   ·rw[Int.le_ediv_iff_mul_le hb,Int.mul_comm];omega
   ·have:n/b<n.tdiv b+1:=by
     rw[Int.ediv_lt_iff_lt_mul hb,Int.add_mul,Int.mul_comm];omega
    omega
 ·rw[Int.tdiv_eq_ediv_of_nonneg hn,Int.tmod_eq_emod_of_nonneg hn,if_neg (by have:=Int.emod_nonneg n (show b≠0 by omega);omega)]
theorem Iw(n b:Int)(hb:0<b)(hn : -4000000000000000000<=n/\n<=4000000000000000000):aW Tryz.prog 162 [i64 n,i64 b] (i64 (n/b)):=by
 refine aA Tryz.func162 rfl (ft:=Nx) 2 fun {σ} Y st=>?_;conv=>whnf
 have hq:=En (n:=n) hb;have Lu : -4000000000000000000<=n/b:=by
  rw[Int.le_ediv_iff_mul_le hb];have : -4000000000000000000*b <= -4000000000000000000*1:=by omega
  omega
 have Lv:n/b<=4000000000000000000:=by
  have:n/b<4000000000000000001:=by
   rw[Int.ediv_lt_iff_lt_mul hb];omega
  omega
 refine bo (by simp;omega) ?_;by_cases h1:n.tmod b<0
 ·rw[if_pos h1]at hq
  refine aK (n.tdiv b) rfl (wrap_i64 (by omega)) ?_;conv=>whnf
  refine bo (by simp;omega) ?_;conv=>whnf
  refine ai (fun _=>?_) (fun h=>absurd h (by simp[h1]));conv=>whnf
  refine ab ?_;conv=>whnf
  conv=>whnf
  rw[hq];exact af
 ·rw[if_neg h1]at hq
  refine aK (n.tdiv b) rfl (wrap_i64 (by omega)) ?_;conv=>whnf
  refine bo (by simp;omega) ?_;conv=>whnf
  refine ai (fun h=>absurd h (by simp[h1])) (fun _=>?_);conv=>whnf
  rw[hq];exact af
def CG(l:Span)(f n:Int):Span:=
 if 0<f then ⟨max l.lo (-((-n)/f)),l.hi⟩ else if f<0 then ⟨l.lo,min l.hi ((-n)/(-f))⟩ else if 0<n then ⟨l.lo,l.lo-1⟩ else l
theorem LZ(l:Span)(f n:Int)(hl : -4000000000000000000<=l.lo/\l.lo<=4000000000000000000)(hf : -1000000<=f/\f<=1000000)(hn : -4000000000000000000<=n/\n<=4000000000000000000):aW Tryz.prog 151 [.agg (Span.cells l),i64 f,i64 n] (.agg (Span.cells (CG l f n))):=by
 refine aA Tryz.func151 rfl (ft:=Np) 3 fun {σ} Y st=>?_;conv=>whnf
 unfold CG;refine ai (fun h1=>?_) (fun h1=>?_)
 ·have h1:0<f:=of_decide_eq_true h1
  rw[if_pos h1];have Lu : -4000000000000000000<=(-n)/f:=by
   rw[Int.le_ediv_iff_mul_le h1];omega
  have Lv:(-n)/f<=4000000000000000000:=by
   have:(-n)/f<4000000000000000001:=by
    rw[Int.ediv_lt_iff_lt_mul h1];omega
   omega
  conv=>whnf
  refine aK ((-n)) (by(try dsimp only);omega) (wrap_i64 (by(try dsimp only);omega)) ?_;conv=>whnf
  refine aq (ds:=[i64 (-n),i64 f]) (Iw (-n) f h1 (by omega)) rfl 1 rfl ?_;conv=>whnf
  refine aK ((-((-n)/f))) (by(try dsimp only);omega) (wrap_i64 (by(try dsimp only);omega)) ?_;conv=>whnf
  exact af
 ·have h1:¬ 0<f:=of_decide_eq_false h1
  rw[if_neg h1];conv=>whnf
  refine ai (fun h2=>?_) (fun h2=>?_)
  ·have h2:f<0:=of_decide_eq_true h2
   have h3:0 < -f:=by omega
   rw[if_pos h2];have Lu : -4000000000000000000<=(-n)/(-f):=by
    rw[Int.le_ediv_iff_mul_le h3];omega
   have Lv:(-n)/(-f)<=4000000000000000000:=by
    have:(-n)/(-f)<4000000000000000001:=by
     rw[Int.ediv_lt_iff_lt_mul h3];omega
    omega
   conv=>whnf
   refine aK ((-n)) (by(try dsimp only);omega) (wrap_i64 (by(try dsimp only);omega)) ?_;conv=>whnf
   refine aK ((-f)) (by(try dsimp only);omega) (wrap_i64 (by(try dsimp only);omega)) ?_;conv=>whnf
   refine aq (ds:=[i64 (-n),i64 (-f)]) (Iw (-n) (-f) h3 (by omega)) rfl 1 rfl ?_;conv=>whnf
   exact af
  ·rw[if_neg (of_decide_eq_false h2)]
   conv=>whnf
   refine ai (fun h2=>?_) (fun h2=>?_)
   ·rw[if_pos (of_decide_eq_true h2)]
    conv=>whnf
    refine ab ?_;conv=>whnf
    conv=>whnf
    exact af
   ·rw[if_neg (of_decide_eq_false h2)]
    conv=>whnf
    exact af
theorem GG{l:Span}{f n:Int}(hl : -4000000000000000000<=l.lo/\l.lo<=4000000000000000000)(hn : -4000000000000000000<=n/\n<=4000000000000000000) : -4000000000000000000<=(CG l f n).lo/\(CG l f n).lo<=4000000000000000000:=by
 unfold CG;split
 ·rename_i h1
  have Lu : -4000000000000000000<=(-n)/f:=by
   rw[Int.le_ediv_iff_mul_le h1];omega
  have Lv:(-n)/f<=4000000000000000000:=by
   have:(-n)/f<4000000000000000001:=by
    rw[Int.ediv_lt_iff_lt_mul h1];omega
   omega
  simp only;omega
 ·split
  ·exact hl
  ·split
   ·exact hl
   ·exact hl
structure DU(s:ed):Prop where
 len:3<=s.aw.length/\s.aw.length<=8
 mB:∀ p∈s.aw,eE 10000 p
 x : -500<=s.b0.x.lo/\s.b0.x.lo<=s.b0.x.hi/\s.b0.x.hi<=500/\s.b0.x.hi-s.b0.x.lo<=40
 y : -500<=s.b0.y.lo/\s.b0.y.lo<=s.b0.y.hi/\s.b0.y.hi<=500/\s.b0.y.hi-s.b0.y.lo<=40
 U2:∀ x∈iP s,gP s x=true
theorem FL{s:ed}(h:gY s=0):DU s:=by
 unfold gY at h;split at h;case isFalse=>cases h
 rename_i h1;split at h
 ·cases h
 rename_i h2;split at h;case isFalse=>rename_i h3;exact absurd h h3
 rename_i h3;split at h;case isFalse=>cases h
 rename_i h4;rw[bg]at h1;unfold mL at h3;split at h3;case isFalse=>cases h3
 rename_i h5;split at h3;case isFalse=>cases h3
 rename_i h6;simp only[Bool.and_eq_true,bg]at h5 h6;refine⟨by omega,fun p hp=>?_,by omega,by omega,fun x hx=>List.all_eq_true.1 h4 x hx⟩;have:=List.any_eq_false.1 (by simpa using h2:(s.aw.any fun p=>!bS 10000 p)=false) p hp;exact within_iff.1 (by simpa using this)
def xS(x:Int)(p:Pt)(l:Span)(z:Pt×Pt):Span:=CG l (-z.2.x) (z.2.y*((p.x-z.1.x)-x)-z.2.x*(p.y-z.1.y))
def iR(s:ed)(x:Int)(p:Pt):Span:=(iP s).foldl (xS x p) s.b0.y
set_option maxHeartbeats 1000000 in
theorem Qu(s:ed)(hR:DU s)(x:Int)(hx : -500<=x/\x<=500)(p:Pt)(hp:eE 10000 p):aW Tryz.prog 136 [.agg s.cells,i64 x,p.d] (.agg (iR s x p).cells):=by
 refine aA Tryz.func136 rfl (ft:=Na) 3 fun {σ} Y st=>?_;conv=>whnf
 have hlen:=hR.len;refine ae (Iv s) rfl rfl ?_;conv=>whnf
 refine cO ao (by exact ah mixed ao (by decide +kernel)) (by exact ah mixed ao (by decide +kernel)) rfl 1500000 1600000 [3,4,5,6,7] (wI s (by omega) (by omega) (fun p h=>(hR.mB p h).mono (by omega)))
  (fun(l:Span)=>([(1500000,.box (.dd s.cells)),(1500001,.box (.dd [i64 x])),(1500002,.box (.dd p.cells)),(1500003,.box (.dd [i64 0,i64 0])),(1500004,.box (.dd l.cells))],st))
  (fun rest l=>iR s x p=rest.foldl (xS x p) l/\(∀ x∈rest,eE 10000 x.1/\eE 20000 x.2) /\ -4000000000000000000<=l.lo/\l.lo<=4000000000000000000) s.b0.y rfl rfl rfl ⟨rfl,tX (by omega) hR.mB,by have:=hR.y;omega⟩ ?_ ?_
 ·rintro ⟨a,b⟩ rest l ⟨hk,hl,Tj⟩ Q Ab -
  refine⟨⟨rfl,rfl⟩,?_⟩;obtain⟨ha,hb⟩:=hl (a,b) (by simp);simp only at ha hb;rw[List.foldl_cons]at hk;have UW:=hp.sub ha;conv=>whnf
  refine ag (ds:=[a.d,p.d]) (JB a p (ha.mono (by omega)) (hp.mono (by omega))) rfl 1 rfl ?_;have TL:=UW.x;have Xt:=UW.y;have nY:=hb.x;have uR:=hb.y;have yU:=j9 (a:=b.y) (b:=(p.sub a).x-x) (by omega) (by omega);have sy:=j9 (a:=b.x) (b:=(p.sub a).y) (by omega) (by omega);conv=>whnf
  refine aK ((-b.x)) (by(try dsimp only);omega) (wrap_i64 (by(try dsimp only);omega)) ?_;conv=>whnf
  refine ab ?_;conv=>whnf
  refine ab ?_;conv=>whnf
  refine ab ?_;conv=>whnf
  refine ab ?_;conv=>whnf
  refine ag (ds:=[.agg l.cells,i64 (-b.x),i64 (b.y*((p.sub a).x-x)-b.x*(p.sub a).y)]) (LZ l (-b.x) (b.y*((p.sub a).x-x)-b.x*(p.sub a).y) Tj (by omega) (by omega)) rfl 1 rfl ?_;conv=>whnf
  exact⟨xS x p l (a,b),av,rfl,Ab _ ⟨hk,fun x hx=>hl x (by simp[hx]),GG Tj (by show -4000000000000000000<=b.y*((p.sub a).x-x)-b.x*(p.sub a).y/\b.y*((p.sub a).x-x)-b.x*(p.sub a).y<=4000000000000000000;omega)⟩⟩
 ·rintro l ⟨hk,_⟩
  rw[List.foldl_nil]at hk;rw[hk];conv=>whnf
  exact af
end Go.PX
