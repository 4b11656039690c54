import Derived.Test.YtgpmlbbkfmkmkaaGreatDoorPxK
set_option linter.all false
set_option maxRecDepth 10000
namespace Go.PX
open Go.Proofs
theorem Ahead.succ{i k j m:Nat}(h:Ahead i k j m):Ahead i (k+1) j m:=h.imp id fun⟨a,b⟩=>⟨a,by omega⟩
theorem qbE{i k j m:Nat}(h:Ahead i (k+1) j m):Ahead i k j m\/(j=i/\m=k):=by
 unfold Ahead at *;omega
structure StOk(l:PLog)(wider:Int)(conf:List Int)(i k:Nat)(b:PBook)(s:LkE)(st:List zt):Prop where
 keep:∀ e∈s.steps,e∈st
 sub:∀ e∈st,Just l wider conf e
 ord:∀ (j m:Nat) c x y,At l j m c x->At l j (m+1) c y->Ahead i (k+1) j (m+1)->qde j j c c m (m+1) x y∈st
theorem qqj{l:PLog}{wider:Int}{conf:List Int}{i k:Nat}{b:PBook}{pers:List (List Per)}{s:LkE}{y:PEnt}(hb:l.books[i]?=some b)(hy:b.ents[k]?=some y)(h:EInv l wider conf i k b pers s) :
  StOk l wider conf i k b s (if k=0 then s.steps else s.steps ++ [⟨((s.of ++ [s.now])[k-1]?).getD .right,s.now,y.shown-((b.ents[k-1]?).getD ⟨0,0,.empty,0⟩).shown⟩]):=by
 cases k with
 | zero=>
  rw[if_pos rfl];refine⟨fun e he=>he,h.sub,fun j m c x z hx hz ha=>h.ord j m c x z hx hz ?_⟩
  rcases qbE ha with ha | ⟨_,ha⟩
  ·exact ha
  ·omega
 | succ k=>
  rw[if_neg (by omega),Nat.add_sub_cancel];have hkl:=(List.getElem?_eq_some_iff.1 hy).1;obtain⟨x,hx⟩:∃ x,b.ents[k]?=some x:=⟨_,List.getElem?_eq_getElem (by omega)⟩;have hof:((s.of ++ [s.now])[k]?).getD .right=⟨i,qJ b k⟩:=by
   rw[h.of,List.getElem?_append_left (by simp),List.getElem?_map,List.getElem?_range (by omega)];rfl
  have e:(⟨((s.of ++ [s.now])[k]?).getD .right,s.now,y.shown-((b.ents[k]?).getD ⟨0,0,.empty,0⟩).shown⟩:zt)=qde i i b b k (k+1) x y:=by
   rw[hof,h.now,hx];rfl
  rw[e];refine⟨fun e he=>List.mem_append_left _ he,fun e he=>?_,fun j m c x' z hx' hz ha=>?_⟩
  ·rcases List.mem_append.1 he with he | he
   ·exact h.sub e he
   ·rw[List.mem_singleton]at he
    rw[he];exact .ord i k b x y ⟨hb,hx⟩ ⟨hb,hy⟩
  ·rcases qbE ha with ha | ⟨h1,h2⟩
   ·exact List.mem_append_left _ (h.ord j m c x' z hx' hz ha)
   ·subst h1
    have hm:m=k:=by omega
    subst hm;have hcb:c=b:=Option.some.inj (hx'.book.symm.trans hb);subst hcb;rw[Option.some.inj (hx'.ent.symm.trans hx),Option.some.inj (hz.ent.symm.trans hy)];exact List.mem_append_right _ (List.mem_singleton.2 rfl)
theorem of_succ{i k:Nat}{b:PBook}{s:LkE}(ho:s.of=(List.range k).map fun(m:Nat)=>(⟨i,qJ b m⟩:Per))(hn:s.now=⟨i,qJ b k⟩):s.of ++ [s.now]=(List.range (k+1)).map fun(m:Nat)=>(⟨i,qJ b m⟩:Per):=by
 rw[List.range_succ,List.map_append,ho,hn];rfl
theorem qcC{b:PBook}{k:Nat}{y:PEnt}(hy:b.ents[k]?=some y){num:Int}(h:zM b.ents num 0=some k):y.kind=3/\y.number=num:=by
 obtain⟨z,_,hz,h1,h2,_⟩:=qam h;rw[Nat.sub_zero,hy]at hz
 cases hz;exact⟨h1,h2⟩
theorem qlT{l:PLog}{wider:Int}{conf:List Int}{i k:Nat}{b:PBook}{pers:List (List Per)}{s:LkE}{y:PEnt}(hp:∀ (j:Nat) c,l.books[j]?=some c->j<i->pers[j]?=some (jM j c))(hb:l.books[i]?=some b)(hy:b.ents[k]?=some y)(h:EInv l wider conf i k b pers s) :
  EInv l wider conf i (k+1) b pers (qnQ l wider conf i b pers k y s):=by
 have hs:=qqj hb hy h;have hof:=of_succ h.of h.now;have hps:=perOf_succ hy;generalize hst:(if k=0 then s.steps else s.steps ++ [(⟨((s.of ++ [s.now])[k-1]?).getD .right,s.now,y.shown-((b.ents[k-1]?).getD ⟨0,0,.empty,0⟩).shown⟩:zt)])=st at hs;unfold qnQ;simp only[hst];have nomine:y.kind≠3 -> ∀ num,(0<=(zu s.mine num).getD 0)/\(1<=(zu s.mine num).getD 0 ↔ ∃ m,m<k+1/\zM b.ents num 0=some m):=fun h3 num=>by
  obtain⟨h1,h2⟩:=h.mine num;refine⟨h1,h2.trans ⟨fun⟨m,hm,he⟩=>⟨m,by omega,he⟩,fun⟨m,hm,he⟩=>⟨m,?_,he⟩⟩⟩
  rcases Nat.lt_or_ge m k with hlt | hge
  ·exact hlt
  ·have:m=k:=by omega
   subst this;exact absurd (qcC hy he).1 h3
 have nogot:y.kind≠3 -> ∀ (st':List zt),(∀ e∈st,e∈st') -> ∀ (j m:Nat) (c:PBook) (z:PEnt) num,At l j m c z->zM c.ents num 0=some m->num∉conf->Ahead i (k+1) j m -> ∃ r,zu s.first num=some r/\(r=⟨j,m⟩\/Both l st' r j m c z):=fun h3 st' hst j m c z num hz hf hc ha=>by
  rcases qbE ha with ha | ⟨rfl,rfl⟩
  ·obtain⟨r,h1,h2⟩:=h.got j m c z num hz hf hc ha
   exact⟨r,h1,h2.imp id (Both.mono fun e he=>hst e (hs.keep e he))⟩
  ·have hcb:c=b:=Option.some.inj (hz.book.symm.trans hb)
   subst hcb;exact absurd (qcC hy hf).1 h3
 have fstk:∀ num r,zu s.first num=some r -> ∃ (j m:Nat) (c:PBook) (x:PEnt),r=⟨j,m⟩/\At l j m c x/\zM c.ents num 0=some m/\num∉conf/\Ahead i (k+1) j m:=fun num r hr=>by
  obtain⟨j,m,c,x,h1,h2,h3,h4,h5⟩:=h.fst num r hr;exact⟨j,m,c,x,h1,h2,h3,h4,h5.succ⟩
 by_cases h2:y.kind=2
 ·rw[if_pos h2]
  rw[if_pos h2]at hps;have h3:y.kind≠3:=by omega
  have hnw:(⟨s.now.book,s.now.n+1⟩:Per)=⟨i,(qJ b (k+1):Nat)⟩:=by rw[h.now,hps];simp
  refine⟨hnw,hof,nomine h3,fstk,nogot h3 _ fun e he=>List.mem_append_left _ he,fun e he=>?_,fun j c hc hj e he=>List.mem_append_left _ (hs.keep e (h.off j c hc hj e he)),fun j c n hc hn hjn e he=>?_,fun j m c x z hx hz ha=>List.mem_append_left _ (hs.ord j m c x z hx hz ha)⟩
  ·rcases List.mem_append.1 he with he | he
   ·exact hs.sub e he
   ·rw[hnw]at he
    exact .set i b hb (qJ b (k+1)) (by omega) (zE b _) e he
  ·rcases hjn with hjn | ⟨rfl,hjn⟩
   ·exact List.mem_append_left _ (hs.keep e (h.set j c n hc hn (.inl hjn) e he))
   ·rcases Nat.lt_or_ge (qJ b k) n with hlt | hge
    ·have:n=qJ b (k+1):=by omega
     subst this;have hcb:c=b:=Option.some.inj (hc.symm.trans hb);subst hcb;rw[hnw];exact List.mem_append_right _ he
    ·exact List.mem_append_left _ (hs.keep e (h.set j c n hc hn (.inr ⟨rfl,hge⟩) e he))
 ·rw[if_neg h2]
  rw[if_neg h2,Nat.add_zero]at hps;have hnow:s.now=⟨i,qJ b (k+1)⟩:=by rw[hps];exact h.now
  have setk:∀ (st':List zt),(∀ e∈st,e∈st') -> ∀ (j:Nat) c n,l.books[j]?=some c->1<=n->(j<i/\n<=zm c.ents\/j=i/\n<=qJ b (k+1)) -> ∀ e∈jl wider ⟨j,(n:Nat)⟩ c.set,e∈st':=fun st' hst j c n hc hn hjn e he=>by
   rw[hps]at hjn;exact hst e (hs.keep e (h.set j c n hc hn hjn e he))
  have offk:∀ (st':List zt),(∀ e∈st,e∈st') -> ∀ (j:Nat) c,l.books[j]?=some c->j<=i -> ∀ e∈jl wider ⟨j,0⟩ c.off,e∈st':=fun st' hst j c hc hj e he=>hst e (hs.keep e (h.off j c hc hj e he))
  by_cases h3:y.kind=3
  ·rw[if_pos h3]
   obtain⟨hm0,hm1⟩:=h.mine y.number;obtain⟨m0,hm0k,hm0f⟩:=firstI_ex hy h3 rfl;have minek:∀ num,(0<=(zu (jL s.mine y.number ((zu s.mine y.number).getD 0+1)) num).getD 0)/\(1<=(zu (jL s.mine y.number ((zu s.mine y.number).getD 0+1)) num).getD 0 ↔ ∃ m,m<k+1/\zM b.ents num 0=some m):=fun num=>by
    rw[zK]
    by_cases hn:num=y.number
    ·rw[if_pos hn,Option.getD_some]
     subst hn;exact⟨by omega,fun _=>⟨m0,by omega,hm0f⟩,fun _=>by omega⟩
    ·rw[if_neg hn]
     obtain⟨h4,h5⟩:=h.mine num;refine⟨h4,h5.trans ⟨fun⟨m,hm,he⟩=>⟨m,by omega,he⟩,fun⟨m,hm,he⟩=>⟨m,?_,he⟩⟩⟩
     rcases Nat.lt_or_ge m k with hlt | hge
     ·exact hlt
     ·have:m=k:=by omega
      subst this;exact absurd (qcC hy he).2.symm hn
   by_cases hc:(zu s.mine y.number).getD 0+1>1\/y.number∈conf
   ·rw[if_pos hc]
    refine⟨hnow,hof,minek,fstk,fun j m c z num hz hf hcn ha=>?_,hs.sub,offk _ fun e he=>he,setk _ fun e he=>he,hs.ord⟩
    rcases qbE ha with ha | ⟨rfl,rfl⟩
    ·obtain⟨r,h5,h6⟩:=h.got j m c z num hz hf hcn ha
     exact⟨r,h5,h6.imp id (Both.mono hs.keep)⟩
    ·have hcb:c=b:=Option.some.inj (hz.book.symm.trans hb)
     subst hcb;have hnum:=(qcC hy hf).2;subst hnum
     rcases hc with hc | hc
     ·obtain⟨m',h5,h6⟩:=hm1.1 (by omega)
      rw[hf]at h6;have:=Option.some.inj h6;omega
     ·exact absurd hc hcn
   ·rw[if_neg hc]
    have hc1:¬ 1<=(zu s.mine y.number).getD 0:=fun h=>hc (.inl (by omega));have hc2:y.number∉conf:=fun h=>hc (.inr h);have hfk:zM b.ents y.number 0=some k:=by
     rcases Nat.lt_or_ge m0 k with hlt | hge
     ·exact absurd (hm1.2 ⟨m0,hlt,hm0f⟩) hc1
     ·rw[hm0f];congr 1;omega
    cases hfr:zu s.first y.number with
    | none=>
     simp only;refine⟨hnow,hof,minek,fun num r hr=>?_,fun j m c z num hz hf hcn ha=>?_,hs.sub,offk _ fun e he=>he,setk _ fun e he=>he,hs.ord⟩
     ·simp only at hr
      rw[zK]at hr
      split at hr
      ·rename_i hn
       cases hr
       subst hn;exact⟨i,k,b,y,rfl,⟨hb,hy⟩,hfk,hc2,.inr ⟨rfl,Nat.lt_succ_self k⟩⟩
      ·exact fstk num r hr
     ·simp only
      rw[zK]
      rcases qbE ha with ha | ⟨rfl,rfl⟩
      ·obtain⟨r,h5,h6⟩:=h.got j m c z num hz hf hcn ha
       have hn:num≠y.number:=by rintro rfl;rw[hfr]at h5;cases h5
       rw[if_neg hn];exact⟨r,h5,h6.imp id (Both.mono hs.keep)⟩
      ·have hcb:c=b:=Option.some.inj (hz.book.symm.trans hb)
       subst hcb;rw[if_pos (qcC hy hf).2.symm];exact⟨_,rfl,.inl rfl⟩
    | some r0=>
     simp only;obtain⟨j0,n0,c0,x0,rfl,hx0,hf0,_,ha0⟩:=h.fst y.number r0 hfr;have hj0:j0<i:=by
      rcases ha0 with ha0 | ⟨rfl,ha0⟩
      ·exact ha0
      ·have hcb:c0=b:=Option.some.inj (hx0.book.symm.trans hb)
       subst hcb;rw[hfk]at hf0;have:=Option.some.inj hf0;omega
     have e1:(⟨qkO pers ⟨j0,n0⟩,s.now,y.shown-(qdO l ⟨j0,n0⟩).shown⟩:zt)=qde j0 i c0 b n0 k x0 y:=by
      rw[qaK hx0 (hp j0 c0 hx0.book hj0),jc hx0,h.now];rfl
     have e2:(⟨s.now,qkO pers ⟨j0,n0⟩,-(y.shown-(qdO l ⟨j0,n0⟩).shown)⟩:zt)=qde i j0 b c0 k n0 y x0:=by
      rw[qaK hx0 (hp j0 c0 hx0.book hj0),jc hx0,h.now,Int.neg_sub];rfl
     rw[e1,e2];refine⟨hnow,hof,minek,fstk,fun j m c z num hz hf hcn ha=>?_,fun e he=>?_,offk _ fun e he=>List.mem_append_left _ he,setk _ fun e he=>List.mem_append_left _ he,fun j m c x z hx hz ha=>List.mem_append_left _ (hs.ord j m c x z hx hz ha)⟩
     ·rcases qbE ha with ha | ⟨rfl,rfl⟩
      ·obtain⟨r,h5,h6⟩:=h.got j m c z num hz hf hcn ha
       exact⟨r,h5,h6.imp id (Both.mono fun e he=>List.mem_append_left _ (hs.keep e he))⟩
      ·have hcb:c=b:=Option.some.inj (hz.book.symm.trans hb)
       subst hcb;have hnum:=(qcC hy hf).2;subst hnum;have hzy:z=y:=Option.some.inj (hz.ent.symm.trans hy);subst hzy;exact⟨_,hfr,.inr ⟨j0,n0,c0,x0,rfl,hx0,by simp,by simp⟩⟩
     ·rcases List.mem_append.1 he with he | he
      ·exact hs.sub e he
      ·simp only[List.mem_cons,List.not_mem_nil,or_false]at he
       rcases he with rfl | rfl
       ·exact .rep j0 i n0 k c0 b x0 y y.number ⟨hx0,⟨hb,hy⟩,hf0,hfk,hc2⟩
       ·exact .rep i j0 k n0 b c0 y x0 y.number ⟨⟨hb,hy⟩,hx0,hfk,hf0,hc2⟩
  ·rw[if_neg h3]
   exact⟨hnow,hof,nomine h3,fstk,nogot h3 _ fun e he=>he,hs.sub,offk _ fun e he=>he,setk _ fun e he=>he,hs.ord⟩
end Go.PX
namespace Go.PX
open Go.Proofs
theorem qmY{l:PLog}{wider:Int}{conf:List Int}{i:Nat}{b:PBook}{pers:List (List Per)}(hp:∀ (j:Nat) c,l.books[j]?=some c->j<i->pers[j]?=some (jM j c))(hb:l.books[i]?=some b):∀ (r:List PEnt) {k:Nat} {s:LkE},(∀ j,r[j]?=b.ents[k+j]?)->EInv l wider conf i k b pers s->EInv l wider conf i (k+r.length) b pers (qeD l wider conf i b pers k r s)
 | [],k,s,_,h=>h
 | y::r,k,s,he,h=>by
  rw[qeD,List.length_cons,show k+(r.length+1)=k+1+r.length by omega];refine qmY hp hb r (fun j=>?_) (qlT hp hb (by have:=he 0;rw[List.getElem?_cons_zero]at this;exact this.symm) h);have:=he (j+1);rw[List.getElem?_cons_succ]at this;rw[this];congr 1;omega
theorem qiJ(b:PBook):qJ b 0=0:=rfl
theorem qjE{l:PLog}{wider:Int}{conf:List Int}{i:Nat}{b:PBook}{s:LkS}(hb:l.books[i]?=some b)(h:LInv l wider conf i s):LInv l wider conf (i+1) (qhE l wider conf i b s):=by
 have h0:EInv l wider conf i 0 b s.pers ⟨s.steps++jl wider ⟨i,0⟩ b.off,s.many+1,s.first,⟨i,0⟩,[],[]⟩:=by
  refine⟨rfl,rfl,fun num=>⟨Int.le_refl 0,fun h=>absurd h (by show ¬ ((1:Int)<=0);decide),fun⟨m,hm,_⟩=>absurd hm (Nat.not_lt_zero m)⟩,fun num r hr=>?_,fun j m c y num hy hf hc ha=>?_,fun e he=>?_,fun j c hc hj e he=>?_,fun j c n hc hn hjn e he=>?_,fun j m c x z hx hz ha=>?_⟩
  ·obtain⟨j,m,c,x,h1,h2,h3,h4,h5⟩:=h.fst num r hr
   exact⟨j,m,c,x,h1,h2,h3,h4,.inl h5⟩
  ·rcases ha with ha | ⟨_,ha⟩
   ·obtain⟨r,h1,h2⟩:=h.got j m c y num hy hf hc ha
    exact⟨r,h1,h2.imp id (Both.mono fun e he=>List.mem_append_left _ he)⟩
   ·exact absurd ha (Nat.not_lt_zero m)
  ·rcases List.mem_append.1 he with he | he
   ·exact h.sub e he
   ·exact .off i b hb e he
  ·rcases Nat.lt_or_ge j i with hlt | hge
   ·exact List.mem_append_left _ (h.off j c hc hlt e he)
   ·have:j=i:=by omega
    subst this;have hcb:c=b:=Option.some.inj (hc.symm.trans hb);subst hcb;exact List.mem_append_right _ he
  ·rcases hjn with⟨hj,hn2⟩ | ⟨_,hn2⟩
   ·exact List.mem_append_left _ (h.set j c n hc hn hj hn2 e he)
   ·rw[qiJ]at hn2;omega
  ·rcases ha with ha | ⟨_,ha⟩
   ·exact List.mem_append_left _ (h.ord j m c x z hx hz ha)
   ·omega
 have h1:=qmY h.pers.2 hb b.ents (fun j=>by rw[Nat.zero_add]) h0;rw[Nat.zero_add]at h1;unfold qhE;have ah:∀ (j m:Nat) (c:PBook) (y:PEnt),At l j m c y->j<i+1->Ahead i b.ents.length j m:=fun j m c y hy hj=>by
  rcases Nat.lt_or_ge j i with hlt | hge
  ·exact .inl hlt
  ·have:j=i:=by omega
   subst this;have hcb:c=b:=Option.some.inj (hy.book.symm.trans hb);subst hcb;exact .inr ⟨rfl,(List.getElem?_eq_some_iff.1 hy.ent).1⟩
 refine⟨⟨by simp only[List.length_append,List.length_singleton];rw[h.pers.1],fun j c hc hj=>?_⟩,fun num r hr=>?_,fun j m c y num hy hf hc hj=>h1.got j m c y num hy hf hc (ah j m c y hy hj),h1.sub,fun j c hc hj e he=>h1.off j c hc (by omega) e he,fun j c n hc hn hj hn2 e he=>?_,fun j m c x z hx hz hj=>h1.ord j m c x z hx hz (ah j (m+1) c z hz hj)⟩
 ·simp only
  rcases Nat.lt_or_ge j i with hlt | hge
  ·rw[List.getElem?_append_left (by rw[h.pers.1];exact hlt)]
   exact h.pers.2 j c hc hlt
  ·have:j=i:=by omega
   subst this;have hcb:c=b:=Option.some.inj (hc.symm.trans hb);subst hcb;rw[List.getElem?_append_right (by rw[h.pers.1];exact Nat.le_refl _),h.pers.1,Nat.sub_self,h1.of];rfl
 ·obtain⟨j,m,c,x,h2,h3,h4,h5,h6⟩:=h1.fst num r hr
  refine⟨j,m,c,x,h2,h3,h4,h5,?_⟩
  rcases h6 with h6 | ⟨h6,_⟩<;>omega
 ·refine h1.set j c n hc hn ?_ e he
  rcases Nat.lt_or_ge j i with hlt | hge
  ·exact .inl ⟨hlt,hn2⟩
  ·have:j=i:=by omega
   subst this;have hcb:c=b:=Option.some.inj (hc.symm.trans hb);subst hcb;exact .inr ⟨rfl,by rw[perOf_all];exact hn2⟩
theorem qmZ{l:PLog}{wider:Int}{conf:List Int}:∀ (bs:List PBook) {i:Nat} {s:LkS},(∀ j,bs[j]?=l.books[i+j]?)->LInv l wider conf i s->LInv l wider conf (i+bs.length) (qeE l wider conf i bs s)
 | [],i,s,_,h=>h
 | b::r,i,s,he,h=>by
  rw[qeE,List.length_cons,show i+(r.length+1)=i+1+r.length by omega];refine qmZ r (fun j=>?_) (qjE (by have:=he 0;rw[List.getElem?_cons_zero]at this;exact this.symm) h);have:=he (j+1);rw[List.getElem?_cons_succ]at this;rw[this];congr 1;omega
theorem qfj(l:PLog)(wider:Int)(conf:List Int):LInv l wider conf l.books.length (qY l wider conf):=by
 have:=qmZ (l:=l) (wider:=wider) (conf:=conf) l.books (i:=0) (s:=⟨[],0,[],[]⟩) (fun j=>by rw[Nat.zero_add]) ⟨⟨rfl,fun j c _ hj=>absurd hj (Nat.not_lt_zero j)⟩,fun num r hr=>(by cases hr),fun j m c y num _ _ _ hj=>absurd hj (Nat.not_lt_zero j),fun e he=>(by cases he),fun j c _ hj=>absurd hj (Nat.not_lt_zero j),fun j c n _ _ hj=>absurd hj (Nat.not_lt_zero j),fun j m c x z _ _ hj=>absurd hj (Nat.not_lt_zero j)⟩;rw[Nat.zero_add]at this;exact this
theorem qoH{l:PLog}{j m:Nat}{c:PBook}{x:PEnt}(h:At l j m c x):j<l.books.length:=(List.getElem?_eq_some_iff.1 h.book).1
theorem qna{l:PLog}{wider:Int}{conf:List Int}:∀ e∈(qY l wider conf).steps,Just l wider conf e:=(qfj l wider conf).sub
theorem look_walk{l:PLog}{wider:Int}{conf:List Int}{e:zt}(h:Just l wider conf e):∃ n,PG.Walk (qY l wider conf).steps e.a e.b n e.w:=by
 have hd:=qfj l wider conf
 cases h with
 | off i b hb e he=>exact⟨1,.one (hd.off i b hb (List.getElem?_eq_some_iff.1 hb).1 _ he)⟩
 | set i b hb n h1 h2 e he=>exact⟨1,.one (hd.set i b n hb h1 (List.getElem?_eq_some_iff.1 hb).1 h2 _ he)⟩
 | ord i k b x y hx hy=>exact⟨1,.one (hd.ord i k b x y hx hy (qoH hx))⟩
 | rep i j m n b c x y num h=>
  obtain⟨r,h1,h2⟩:=hd.got i m b x num h.ha h.fa h.no (qoH h.ha);obtain⟨r',h1',h3⟩:=hd.got j n c y num h.hb h.fb h.no (qoH h.hb);rw[h1]at h1';have:r=r':=Option.some.inj h1';subst this
  rcases h2 with h2 | ⟨i1,m1,b1,x1,e1,hx1,s1,s1'⟩
  ·rcases h3 with h3 | ⟨i2,m2,b2,x2,e2,hx2,s2,s2'⟩
   ·
    rw[h2]at h3;have hij:i=j:=by injection h3;omega
    have hmn:m=n:=by injection h3;omega
    subst hij;subst hmn;have hbc:b=c:=Option.some.inj (h.ha.book.symm.trans h.hb.book);subst hbc;have hxy:x=y:=Option.some.inj (h.ha.ent.symm.trans h.hb.ent);subst hxy;refine⟨0,?_⟩;show PG.Walk _ _ _ 0 (x.shown-x.shown);rw[Int.sub_self];exact .nil _
   ·rw[h2]at e2
    have hij:i=i2:=by injection e2;omega
    have hmn:m=m2:=by injection e2;omega
    subst hij;subst hmn;have hbc:b=b2:=Option.some.inj (h.ha.book.symm.trans hx2.book);subst hbc;have hxy:x=x2:=Option.some.inj (h.ha.ent.symm.trans hx2.ent);subst hxy;exact⟨1,.one s2⟩
  ·rcases h3 with h3 | ⟨i2,m2,b2,x2,e2,hx2,s2,s2'⟩
   ·rw[h3]at e1
    have hij:j=i1:=by injection e1;omega
    have hmn:n=m1:=by injection e1;omega
    subst hij;subst hmn;have hbc:c=b1:=Option.some.inj (h.hb.book.symm.trans hx1.book);subst hbc;have hxy:y=x1:=Option.some.inj (h.hb.ent.symm.trans hx1.ent);subst hxy;exact⟨1,.one s1'⟩
   ·rw[e1]at e2
    have hij:i1=i2:=by injection e2;omega
    have hmn:m1=m2:=by injection e2;omega
    subst hij;subst hmn;have hbc:b1=b2:=Option.some.inj (hx1.book.symm.trans hx2.book);subst hbc;have hxy:x1=x2:=Option.some.inj (hx1.ent.symm.trans hx2.ent);subst hxy;refine⟨1+1,?_⟩;have hw:=(PG.Walk.one s1').trans (PG.Walk.one s2);have e:(qde i i1 b b1 m m1 x x1).w+(qde i1 j b1 c m1 n x1 y).w=(qde i j b c m n x y).w:=by
     show(x1.shown-x.shown)+(y.shown-x1.shown)=y.shown-x.shown;omega
    rw[e]at hw;exact hw
structure Truth(l:PLog)(wider:Int)(conf:List Int)(t:Per->Int):Prop where
 right:t .right=0
 ok:∀ e,Just l wider conf e->t e.b<=t e.a+e.w
theorem qfk{l:PLog}{wider:Int}{conf:List Int}{t:Per->Int}(h0:t .right=0):Truth l wider conf t↔PG.Pot (qY l wider conf).steps t:=by
 constructor
 ·exact fun h e he=>h.ok e (qna e he)
 ·intro h
  refine⟨h0,fun e he=>?_⟩;obtain⟨n,hw⟩:=look_walk he;exact hw.pot h
def qcn(l:PLog)(wider:Int)(conf:List Int):Bool:=qmV (qY l wider conf) (qcK (qY l wider conf) .right)
theorem shift_pot{es:List zt}{t:Per->Int}(h:PG.Pot es t)(d:Int):PG.Pot es fun p=>t p-d:=fun e he=>by
 have:=h e he;show t e.b-d<=t e.a-d+e.w;omega
theorem fits_iff(l:PLog)(wider:Int)(conf:List Int):qcn l wider conf=true ↔ ∃ t,Truth l wider conf t:=by
 have hs:=qfi l wider conf;unfold qcn;rw[hs.fit hs.right];constructor
 ·intro hno
  have hd:=hs.dist hno hs.right;have hp:=hd.pot fun e he=>hs.known hs.right (hs.ends e he).1;exact⟨_,(qfk (t:=fun v=>(zu (qcK (qY l wider conf) .right) v).getD 0) (by have h0:zu (qcK (qY l wider conf) .right) .right=some 0:=hd.root0;show(zu (qcK (qY l wider conf) .right) .right).getD 0=0;rw[h0];rfl)).2 hp⟩
 ·rintro ⟨t,ht⟩
  exact PG.pot_noNeg ((qfk ht.right).1 ht)
def zD(x:LkS)(p q:Per):Span:=⟨-(atM (qcK x p) q),atM (qcK x q) p⟩
theorem ahead_in{l:PLog}{wider:Int}{conf:List Int}(hf:qcn l wider conf=true){t:Per->Int}(ht:Truth l wider conf t){p q:Per}(hp:p∈qV l)(hq:q∈qV l) :
  (zD (qY l wider conf) p q).lo<=t p-t q/\t p-t q<=(zD (qY l wider conf) p q).hi:=by
 have hs:=qfi l wider conf;have hpot:=(qfk ht.right).1 ht;have hno:=PG.pot_noNeg hpot;obtain⟨v,hv⟩:=hs.known hp hq;obtain⟨u,hu⟩:=hs.known hq hp;have h1:=(hs.dist hno hp).most hpot hv;have h2:=(hs.dist hno hq).most hpot hu;unfold zD atM;simp only[hv,hu,Option.getD_some];omega
theorem ahead_reach{l:PLog}{wider:Int}{conf:List Int}(hf:qcn l wider conf=true){p q:Per}(hp:p∈qV l)(hq:q∈qV l) :
  (∃ t,Truth l wider conf t/\t p-t q=(zD (qY l wider conf) p q).hi) /\ ∃ t,Truth l wider conf t/\t p-t q=(zD (qY l wider conf) p q).lo:=by
 have hs:=qfi l wider conf;have hno:PG.NoNeg (qY l wider conf).steps:=(hs.fit hs.right).1 hf;have key:∀ {a b:Per},a∈qV l->b∈qV l -> ∃ t,Truth l wider conf t/\t b-t a=atM (qcK (qY l wider conf) a) b:=fun {a b} ha hb=>by
  have hd:=hs.dist hno ha;have hpot:=hd.pot fun e he=>hs.known ha (hs.ends e he).1;have h0:=hd.root0;refine⟨fun v=>(zu (qcK (qY l wider conf) a) v).getD 0-(zu (qcK (qY l wider conf) a) .right).getD 0,(qfk (by show(zu (qcK (qY l wider conf) a) .right).getD 0-(zu (qcK (qY l wider conf) a) .right).getD 0=0;omega)).2 (shift_pot hpot _),?_⟩;simp only at h0 ⊢;rw[h0];unfold atM;simp only[Option.getD_some];omega
 obtain⟨t,ht,he⟩:=key hq hp;obtain⟨u,hu,he'⟩:=key hp hq;exact⟨⟨t,ht,he⟩,u,hu,by show _ = -(atM _ _);rw[<- he'];omega⟩
end Go.PX
namespace Go.PX
open Go.Proofs
def zI(bs:List PBook):Nat:=(bs.map fun b=>zm b.ents+1).sum
def jp(l:PLog)(i n:Nat):Nat:=1+n+zI (l.books.take i)
theorem qbF(b:PBook)(r:List PBook):zI (b::r)=zm b.ents+1+zI r:=by
 unfold zI;rw[List.map_cons,List.sum_cons]
theorem qbS(i:Nat)(b:PBook):(qjC i b).length=zm b.ents+1:=by
 unfold qjC;rw[List.length_map,List.length_range]
theorem qfQ:∀ (bs:List PBook) (i:Nat),(qaQ i bs).length=zI bs
 | [],_=>rfl
 | b::r,i=>by
  rw[qaQ,List.length_append,qbS,qfQ r,qbF]
theorem qkT:∀ {bs:List PBook} {i0 i:Nat} {b:PBook} {n:Nat},bs[i]?=some b->n<=zm b.ents->(qaQ i0 bs)[n+zI (bs.take i)]?=some ⟨(i0+i:Nat),n⟩
 | [],_,i,b,n,h,_=>by simp at h
 | c::r,i0,0,b,n,h,hn=>by
  rw[List.getElem?_cons_zero]at h
  cases h
  rw[qaQ,List.take_zero];show(qjC i0 c++qaQ (i0+1) r)[n+0]?=_;rw[Nat.add_zero,List.getElem?_append_left (by rw[qbS];omega)];unfold qjC;rw[List.getElem?_map,List.getElem?_range (by omega)];rfl
 | c::r,i0,i+1,b,n,h,hn=>by
  rw[List.getElem?_cons_succ]at h;rw[qaQ,List.take_succ_cons,qbF,List.getElem?_append_right (by rw[qbS];omega),qbS,show n+(zm c.ents+1+zI (r.take i))-(zm c.ents+1)=n+zI (r.take i) by omega,qkT (i0:=i0+1) h hn,show i0+1+i=i0+(i+1) by omega]
theorem qkU:∀ {bs:List PBook} {i0 k:Nat} {p:Per},(qaQ i0 bs)[k]?=some p -> ∃ (i:Nat) (b:PBook) (n:Nat),bs[i]?=some b/\n<=zm b.ents/\p=⟨(i0+i:Nat),n⟩/\k=n+zI (bs.take i)
 | [],_,k,p,h=>by simp[qaQ]at h
 | c::r,i0,k,p,h=>by
  rw[qaQ]at h
  by_cases hk:k<zm c.ents+1
  ·rw[List.getElem?_append_left (by rw[qbS];exact hk)]at h
   unfold qjC at h;rw[List.getElem?_map,List.getElem?_range hk]at h
   cases h
   exact⟨0,c,k,rfl,by omega,rfl,rfl⟩
  ·rw[List.getElem?_append_right (by rw[qbS];omega),qbS]at h
   obtain⟨i,b,n,h1,h2,h3,h4⟩:=qkU h;refine⟨i+1,b,n,by rw[List.getElem?_cons_succ];exact h1,h2,by rw[h3,show i0+1+i=i0+(i+1) by omega],?_⟩;rw[List.take_succ_cons,qbF];omega
theorem jC{l:PLog}{i:Nat}{b:PBook}{n:Nat}(h:l.books[i]?=some b)(hn:n<=zm b.ents):(qV l)[jp l i n]?=some ⟨i,n⟩:=by
 unfold qV jp;rw[show 1+n+zI (l.books.take i)=(n+zI (l.books.take i))+1 by omega,List.getElem?_cons_succ,qkT (i0:=0) h hn,Nat.zero_add]
theorem qfl(l:PLog):(qV l).length=1+zI l.books:=by
 unfold qV;rw[List.length_cons,qfQ];omega
theorem qdf{l:PLog}{k:Nat}{p:Per}(h:(qV l)[k]?=some p):(p = .right/\k=0) \/ ∃ (i:Nat) (b:PBook) (n:Nat),l.books[i]?=some b/\n<=zm b.ents/\p=⟨i,n⟩/\k=jp l i n:=by
 unfold qV at h
 cases k with
 | zero=>rw[List.getElem?_cons_zero]at h;cases h;exact .inl ⟨rfl,rfl⟩
 | succ k=>
  rw[List.getElem?_cons_succ]at h;obtain⟨i,b,n,h1,h2,h3,h4⟩:=qkU h;rw[Nat.zero_add]at h3;exact .inr ⟨i,b,n,h1,h2,h3,by unfold jp;omega⟩
theorem qfm{l:PLog}{k k':Nat}{p:Per}(h:(qV l)[k]?=some p)(h':(qV l)[k']?=some p):k=k':=by
 rcases qdf h with⟨e,h1⟩ | ⟨i,b,n,h1,h2,h3,h4⟩
 ·rcases qdf h' with⟨_,h2⟩ | ⟨i,b,n,_,_,h3,_⟩
  ·omega
  ·rw[e]at h3
   injection h3 with h3
   omega
 ·rcases qdf h' with⟨e,_⟩ | ⟨i',b',n',h1',h2',h3',h4'⟩
  ·rw[e]at h3
   injection h3 with h3
   omega
  ·rw[h3]at h3'
   injection h3' with h5 h6
   have hi:i=i':=by omega
   have hn:n=n':=by omega
   rw[h4,h4',hi,hn]
structure BookR(b:PBook):Prop where
 off : -720<=b.off.lo/\b.off.lo<=b.off.hi/\b.off.hi<=720
 set : -720<=b.set.lo/\b.set.lo<=b.set.hi/\b.set.hi<=720
 ents:b.ents.length<=8
 ent:∀ x∈b.ents,(0<=x.shown/\x.shown<=20000)/\(1<=x.kind/\x.kind<=3)/\(0<=x.number/\x.number<=99)
structure LogR(l:PLog):Prop where
 near:0<=l.near/\l.near<=60
 books:1<=l.books.length/\l.books.length<=3
 book:∀ b∈l.books,BookR b
theorem qpS{wider:Int}{p:Per}{s:Span}{e:zt}(he:e∈jl wider p s)(hs : -720<=s.lo/\s.lo<=s.hi/\s.hi<=720)(hw:0<=wider/\wider<=1048576) : -1100000<=e.w/\e.w<=1100000:=by
 unfold jl at he;simp only[List.mem_cons,List.not_mem_nil,or_false]at he
 rcases he with rfl | rfl
 ·simp only;omega
 ·simp only;omega
theorem qpT{l:PLog}{wider:Int}{conf:List Int}(hR:LogR l)(hw:0<=wider/\wider<=1048576){e:zt}(h:Just l wider conf e) : -1100000<=e.w/\e.w<=1100000:=by
 have sh:∀ {i k b x},At l i k b x->0<=x.shown/\x.shown<=20000:=fun {i k b x} hx=>((hR.book b (List.mem_of_getElem? hx.book)).ent x (List.mem_of_getElem? hx.ent)).1
 cases h with
 | off i b hb e he=>exact qpS he (hR.book b (List.mem_of_getElem? hb)).off hw
 | set i b hb n h1 h2 e he=>exact qpS he (hR.book b (List.mem_of_getElem? hb)).set hw
 | ord i k b x y hx hy=>
  have h1:=sh hx;have h2:=sh hy;show -1100000<=y.shown-x.shown/\y.shown-x.shown<=1100000;omega
 | rep i j m n b c x y num h=>
  have h1:=sh h.ha;have h2:=sh h.hb;show -1100000<=y.shown-x.shown/\y.shown-x.shown<=1100000;omega
theorem qaL(b:PBook):zm b.ents<=b.ents.length:=by
 unfold zm;exact List.length_filter_le _ _
theorem entS_len{l:PLog}{wider:Int}{conf:List Int}{i:Nat}{b:PBook}{pers:List (List Per)}{k:Nat}{y:PEnt}{s:LkE}:(qnQ l wider conf i b pers k y s).steps.length<=s.steps.length+3:=by
 have h1:∀ (st:List zt) (e:zt),(if k=0 then st else st ++ [e]).length<=st.length+1:=fun st e=>by split<;>simp
 unfold qnQ;simp only;have h2:=h1 s.steps ⟨((s.of ++ [s.now])[k-1]?).getD .right,s.now,y.shown-((b.ents[k-1]?).getD ⟨0,0,.empty,0⟩).shown⟩;generalize (if k=0 then s.steps else s.steps ++ [(⟨((s.of ++ [s.now])[k-1]?).getD .right,s.now,y.shown-((b.ents[k-1]?).getD ⟨0,0,.empty,0⟩).shown⟩:zt)])=st at h2 ⊢
 split
 ·simp only[List.length_append,jl,List.length_cons,List.length_nil];omega
 ·split
  ·split
   ·simp only;omega
   ·split
    ·simp only;omega
    ·simp only[List.length_append,List.length_cons,List.length_nil];omega
  ·simp only;omega
theorem qkV{l:PLog}{wider:Int}{conf:List Int}{i:Nat}{b:PBook}{pers:List (List Per)}:∀ (r:List PEnt) {k:Nat} {s:LkE},(qeD l wider conf i b pers k r s).steps.length<=s.steps.length+3*r.length
 | [],k,s=>Nat.le_refl _
 | y::r,k,s=>by
  rw[qeD,List.length_cons];have h1:=qkV (l:=l) (wider:=wider) (conf:=conf) (i:=i) (b:=b) (pers:=pers) r (k:=k+1) (s:=qnQ l wider conf i b pers k y s);have h2:=entS_len (l:=l) (wider:=wider) (conf:=conf) (i:=i) (b:=b) (pers:=pers) (k:=k) (y:=y) (s:=s);omega
theorem qkW{l:PLog}{wider:Int}{conf:List Int}:∀ (bs:List PBook) {i:Nat} {s:LkS},(∀ b∈bs,b.ents.length<=8)->(qeE l wider conf i bs s).steps.length<=s.steps.length+26*bs.length
 | [],i,s,_=>Nat.le_refl _
 | b::r,i,s,h=>by
  rw[qeE,List.length_cons];have h1:=qkW (l:=l) (wider:=wider) (conf:=conf) r (i:=i+1) (s:=qhE l wider conf i b s) fun c hc=>h c (by simp[hc]);have h2:=qkV (l:=l) (wider:=wider) (conf:=conf) (i:=i) (b:=b) (pers:=s.pers) b.ents (k:=0) (s:=⟨s.steps++jl wider ⟨i,0⟩ b.off,s.many+1,s.first,⟨i,0⟩,[],[]⟩);have h3:=h b (by simp);have h4:(qhE l wider conf i b s).steps.length<=s.steps.length+2+3*b.ents.length:=by
   refine Nat.le_trans h2 ?_;simp[jl]
  omega
theorem look_len{l:PLog}(hR:LogR l)(wider:Int)(conf:List Int):(qY l wider conf).steps.length<=78:=by
 have:=qkW (l:=l) (wider:=wider) (conf:=conf) l.books (i:=0) (s:=⟨[],0,[],[]⟩) fun b hb=>(hR.book b hb).ents;have h2:=hR.books;unfold qY;simp only[List.length_nil]at this;omega
def qlU(m:PM)(B:Int):Prop:=∀ p v,zu m p=some v -> -B<=v/\v<=B
theorem qoI{m:PM×Bool}{s:zt}{B:Int}(h:qlU m.1 B)(hs : -1100000<=s.w/\s.w<=1100000):qlU (qfP m s).1 (B+1100000):=by
 have up:qlU m.1 (B+1100000):=fun p v hv=>by have:=h p v hv;omega
 unfold qfP
 cases h1:zu m.1 s.a with
 | none=>exact up
 | some n=>
  have hn:=h s.a n h1;have hput:qlU (jL m.1 s.b (n+s.w)) (B+1100000):=fun p v hv=>by
   rw[zK]at hv
   split at hv
   ·cases hv;omega
   ·exact up p v hv
  simp only
  cases h2:zu m.1 s.b with
  | none=>exact hput
  | some x=>
   simp only
   split
   ·exact hput
   ·exact up
end Go.PX
namespace Go.PX
open Go.Proofs
def zj(x:PEnt):D:=if x.kind=1 then .ifc 138 (.agg [.str x.word]) else if x.kind=2 then .ifc 175 (.agg []) else if x.kind=3 then .ifc 156 (.agg [.str x.word,i64 x.number]) else .nili
theorem qpd(x:PEnt):FnV Tryz.prog 83 [x.d] (zj x):=by
 refine qG mixed ql Tryz.func83 rfl (ft:=ft83) 1 (by decide +kernel) (by rfl) fun {σ} Y st=>?_;conv=>whnf
 unfold zj;refine qj (fun h1=>?_) (fun h1=>?_)
 ·rw[if_pos (of_decide_eq_true h1)]
  conv=>whnf
  exact qc 0 rfl ⟨⟨rfl,rfl⟩,rfl⟩
 ·rw[if_neg (of_decide_eq_false h1)]
  conv=>whnf
  refine qj (fun h2=>?_) (fun h2=>?_)
  ·rw[if_pos (of_decide_eq_true h2)]
   conv=>whnf
   exact qc 0 rfl ⟨⟨rfl,rfl⟩,rfl⟩
  ·rw[if_neg (of_decide_eq_false h2)]
   conv=>whnf
   refine qj (fun h3=>?_) (fun h3=>?_)
   ·rw[if_pos (of_decide_eq_true h3)]
    conv=>whnf
    exact qc 0 rfl ⟨⟨rfl,rfl⟩,rfl⟩
   ·rw[if_neg (of_decide_eq_false h3)]
    conv=>whnf
    exact qc 0 rfl ⟨⟨rfl,rfl⟩,rfl⟩
def qcp(n lo hi:Int):Bool:=!inB n lo hi
theorem qlV(lo hi n:Int):FnV Tryz.prog 59 [i64 lo,i64 hi,.vs [[i64 n]]] (.bool (qcp n lo hi)):=FnV.cast (fn51_1 lo hi n) rfl
def qlB(x:PEnt):Int:=
 if qcp x.shown 0 20000 then 7
 else if x.kind=1 then (if qaJ x.word&&decide (x.number=0) then 0 else 6)
 else if x.kind=2 then (if decide (x.word = .empty)&&decide (x.number=0) then 0 else 6)
 else if x.kind=3 then (if qaJ x.word && !qcp x.number 1 99 then 0 else 6)
 else 4
theorem pa63(x:PEnt):FnV Tryz.prog 63 [x.d] (i64 (qlB x)):=by
 refine qG mixed ql Tryz.func63 rfl (ft:=ft63) 1 (by decide +kernel) (by rfl) fun {σ} Y st=>?_;conv=>whnf
 refine qs (qlV 0 20000 x.shown) rfl 1 rfl ?_;unfold qlB
 cases h0:qcp x.shown 0 20000 with
 | true=>
  conv=>whnf
  exact qc 0 rfl ⟨⟨rfl,rfl⟩,rfl⟩
 | false=>
  conv=>whnf
  refine qk (qpd x) rfl rfl ?_;conv=>whnf
  have hw0:(x.word=(⟨#[]⟩:ByteArray))↔x.word = .empty:=Iff.rfl
  by_cases h1:x.kind=1
  ·have ht:zj x = .ifc 138 (.agg [.str x.word]):=by unfold zj;rw[if_pos h1]
   rw[ht,if_pos h1];conv=>whnf
   refine qk (qrL x.word) rfl rfl ?_;conv=>whnf
   cases hn:qaJ x.word with
   | false=>
    conv=>whnf
    exact qc 0 rfl ⟨⟨rfl,rfl⟩,rfl⟩
   | true=>
    conv=>whnf
    generalize decide (x.number=0)=B
    cases B with
    | false=>
     conv=>whnf
     exact qc 0 rfl ⟨⟨rfl,rfl⟩,rfl⟩
    | true=>
     conv=>whnf
     exact qc 0 rfl ⟨⟨rfl,rfl⟩,rfl⟩
  ·rw[if_neg h1]
   by_cases h2:x.kind=2
   ·have ht:zj x = .ifc 175 (.agg []):=by unfold zj;rw[if_neg h1,if_pos h2]
    rw[ht,if_pos h2];conv=>whnf
    have hw1:decide (x.word = .empty)=decide (x.word=(⟨#[]⟩:ByteArray)):=rfl;rw[hw1];generalize decide (x.word=(⟨#[]⟩:ByteArray))=A
    cases A with
    | false=>
     conv=>whnf
     exact qc 0 rfl ⟨⟨rfl,rfl⟩,rfl⟩
    | true=>
     conv=>whnf
     generalize decide (x.number=0)=B
     cases B with
     | false=>
      conv=>whnf
      exact qc 0 rfl ⟨⟨rfl,rfl⟩,rfl⟩
     | true=>
      conv=>whnf
      exact qc 0 rfl ⟨⟨rfl,rfl⟩,rfl⟩
   ·rw[if_neg h2]
    by_cases h3:x.kind=3
    ·have ht:zj x = .ifc 156 (.agg [.str x.word,i64 x.number]):=by unfold zj;rw[if_neg h1,if_neg h2,if_pos h3]
     rw[ht,if_pos h3];conv=>whnf
     refine qk (qrL x.word) rfl rfl ?_;conv=>whnf
     cases hn:qaJ x.word with
     | false=>
      conv=>whnf
      exact qc 0 rfl ⟨⟨rfl,rfl⟩,rfl⟩
     | true=>
      conv=>whnf
      refine qs (qlV 1 99 x.number) rfl 1 rfl ?_
      cases h4:qcp x.number 1 99 with
      | false=>
       conv=>whnf
       exact qc 0 rfl ⟨⟨rfl,rfl⟩,rfl⟩
      | true=>
       conv=>whnf
       exact qc 0 rfl ⟨⟨rfl,rfl⟩,rfl⟩
    ·have ht:zj x = .nili:=by unfold zj;rw[if_neg h1,if_neg h2,if_neg h3]
     rw[ht,if_neg h3];conv=>whnf
     exact qc 0 rfl ⟨⟨rfl,rfl⟩,rfl⟩
theorem pa62(y x:PBook):FnV Tryz.prog 62 [.agg y.cells,.ref x.cells] (.bool (decide (y.name=x.name))):=by
 refine qG mixed ql Tryz.func62 rfl (ft:=ft62) 2 (by decide +kernel) (by rfl) fun {σ} Y st=>?_;conv=>whnf
 exact qc 0 rfl ⟨⟨rfl,rfl⟩,rfl⟩
theorem pa108(l:List PBook)(g:FuncId)(caps:List D)(p:PBook->Bool)(hl:l.length<4000000000000000000)(hp:∀ x∈l,FnV Tryz.prog g (.agg x.cells::caps) (.bool (p x))) :
  FnV Tryz.prog 108 [qR l,.clo g caps] (i64 (jv p l 0)):=by
 refine qG mixed ql Tryz.func108 rfl (ft:=ft108) 2 (by decide +kernel) (by rfl) fun {σ} Y st=>?_;conv=>whnf
 refine zr (T:=tys) ql (by exact qi mixed ql (by decide +kernel)) l (fun i (_:Unit)=>⟨[(0,.d (qR l)),(1,.d (.clo g caps)),(7,.d (i64 l.length)),(8,.d (i64 i))],[],st⟩) (fun i r _=>jv p l 0=jv p r i) () (Wk.sub (by repeat' first|exact trivial|refine⟨?_,?_⟩|rfl|(simp only[List.length_map];rfl)|simp[PX.get]) trivial) rfl ?_ ?_
 ·intro i x r _ hx hi hr he
  rw[jv]at he;conv=>whnf
  refine qj (fun _=>?_) (fun h=>absurd hi (by simpa using h));conv=>whnf
  refine qw hx ?_;conv=>whnf
  refine qk (hp x (List.mem_of_getElem? hx)) rfl rfl ?_;conv=>whnf
  refine qj (fun h1=>?_) (fun h1=>?_)
  ·conv=>whnf
   rw[he,if_pos h1];exact qc 0 rfl ⟨⟨rfl,rfl⟩,rfl⟩
  ·rw[if_neg (by simp[h1])]at he
   conv=>whnf
   refine qf (qb (by(try dsimp only);omega)) ?_;conv=>whnf
   exact⟨(),he,(Wk.sub (by repeat' first|exact trivial|refine⟨?_,?_⟩|rfl|(simp only[List.length_map];rfl)|simp[PX.get]) trivial)⟩
 ·intro _ he
  conv=>whnf
  refine qj (fun h=>absurd h (by simp)) (fun _=>?_);conv=>whnf
  rw[he];exact qc 0 rfl ⟨⟨rfl,rfl⟩,rfl⟩
theorem pa61(l:List PBook)(g:FuncId)(caps:List D)(p:PBook->Bool)(hl:l.length<4000000000000000000)(hp:∀ x∈l,FnV Tryz.prog g (.agg x.cells::caps) (.bool (p x))) :
  FnV Tryz.prog 61 [qR l,.clo g caps] (.bool (l.any p)):=by
 refine qG mixed ql Tryz.func61 rfl (ft:=ft61) 2 (by decide +kernel) (by rfl) fun {σ} Y st=>?_;conv=>whnf
 refine qk (pa108 l g caps p hl hp) rfl rfl ?_;conv=>whnf
 refine qc 0 rfl ⟨⟨?_,rfl⟩,rfl⟩;rw[<- qbQ p l 0 (by omega)];rfl
def qhH(pre:List PBook)(b:PBook):Int:=
 if qaJ b.name then
  if pre.any (fun x=>decide (x.name=b.name)) then 5
  else if qcp b.off.lo (-720) 720||qcp b.off.hi (-720) 720||qcp b.set.lo (-720) 720||qcp b.set.hi (-720) 720 then 7
  else if decide (b.off.lo>b.off.hi)||decide (b.set.lo>b.set.hi) then 2
  else if b.ents.length>8 then 3 else 0
 else 6
def qef:List PEnt->Nat->Int×Int
 | [],_=>(0,0)
 | y::r,k=>if qlB y=0 then qef r (k+1) else (k,qlB y)
def qbu:List PBook->List PBook->Nat->Int×Int×Int
 | _,[],_=>(0,0,0)
 | pre,b::r,i=>if qhH pre b=0 then (if (qef b.ents 0).2=0 then qbu (pre ++ [b]) r (i+1) else ((i+1:Nat),(qef b.ents 0).1,(qef b.ents 0).2)) else ((i+1:Nat),0,qhH pre b)
def qaM(l:PLog):Int×Int×Int:=
 if qcp l.near 0 60 then (0,0,7) else if qcp l.books.length 1 3 then (0,0,3) else qbu [] l.books 0
def qsd(x:Int×Int×Int):D:=.tup [i64 x.1,i64 x.2.1,i64 x.2.2]
theorem out_4(lo hi a b c d:Int):FnV Tryz.prog 59 [i64 lo,i64 hi,.vs [[i64 a],[i64 b],[i64 c],[i64 d]]] (.bool (qcp a lo hi||qcp b lo hi||qcp c lo hi||qcp d lo hi)):=FnV.cast (qsc lo hi [a,b,c,d] (by simp)) (by simp[qcp,inB,Bool.or_assoc,Int.not_le];grind)
theorem pa17(l:PLog):FnV Tryz.prog 17 [l.d] (qsd (qaM l)):=by
 refine qG mixed ql Tryz.func17 rfl (ft:=ft17) 1 (by decide +kernel) (by rfl) fun {σ} Y st=>?_;conv=>whnf
 unfold qaM;refine qs (qlV 0 60 _) rfl 1 rfl ?_
 cases h0:qcp l.near 0 60 with
 | true=>
  conv=>whnf
  exact qc 0 rfl ⟨⟨rfl,rfl⟩,rfl⟩
 | false=>
  conv=>whnf
  refine qs (qlV 1 3 l.books.length) rfl 1 (by
   show some _=some _;simp[qR]) ?_
  conv=>whnf
  cases h1:qcp l.books.length 1 3 with
  | true=>
   conv=>whnf
   exact qc 0 rfl ⟨⟨rfl,rfl⟩,rfl⟩
  | false=>
   have hlen:l.books.length<=3:=by
    have h1:=h1;unfold qcp inB at h1;simp at h1;omega
   simp only[if_false,Bool.false_eq_true];conv=>whnf
   generalize hK:qbu [] l.books 0=K;refine zr (T:=tys) ql (by exact qi mixed ql (by decide +kernel)) l.books (fun i (_:Unit)=>⟨[(1,.ptr 1 0),(21,.d (qR l.books)),(22,.d (i64 l.books.length)),(23,.d (i64 i))],[(1,.box (.dd l.cells))],st⟩)
    (fun i r _=>qbu (l.books.take i) r i=K) () (Wk.sub (by repeat' first|exact trivial|refine⟨?_,?_⟩|rfl|(simp only[List.length_map];rfl)|simp[PX.get]) ⟨(by first | rfl | (simp only[List.length_map];rfl) | simp[PX.get]),trivial⟩) hK ?_ ?_
   ·rintro i b r _ hx hi hr he
    rw[qbu]at he;have htk:l.books.take (i+1)=l.books.take i ++ [b]:=by rw[List.take_succ,hx];rfl
    conv=>whnf
    refine qj (fun _=>?_) (fun h=>absurd hi (by simpa using h));conv=>whnf
    refine qw hx ?_;conv=>whnf
    refine qk (qrL b.name) rfl rfl ?_;unfold qhH at he
    cases h2:qaJ b.name with
    | false=>
     rw[h2]at he;simp only[if_false,Bool.false_eq_true]at he;conv=>whnf
     refine qf (qb (by(try dsimp only);omega)) ?_;conv=>whnf
     rw[<- he];exact qc 0 rfl ⟨⟨rfl,rfl⟩,rfl⟩
    | true=>
     rw[h2]at he;simp only[if_true]at he;conv=>whnf
     refine zL (by simp;omega) ?_;conv=>whnf
     refine zL (by cases l.books<;>rfl) ?_;conv=>whnf
     refine qs (ds:=[qR (l.books.take i),.clo 62 [.ref b.cells]]) (pa61 (l.books.take i) 62 [.ref b.cells] (fun y=>decide (y.name=b.name)) (by simp;omega) fun y _=>pa62 y b) rfl 1 (by show some _=some _;simp[qR,List.map_take];rfl) ?_;generalize hany:((l.books.take i).any fun y=>decide (y.name=b.name))=A at he ⊢
     cases A with
     | true=>
      simp only[if_true]at he;conv=>whnf
      refine qf (qb (by(try dsimp only);omega)) ?_;conv=>whnf
      rw[<- he];exact qc 0 rfl ⟨⟨rfl,rfl⟩,rfl⟩
     | false=>
      simp only[if_false,Bool.false_eq_true]at he;conv=>whnf
      refine qs (out_4 (-720) 720 b.off.lo b.off.hi b.set.lo b.set.hi) rfl 1 rfl ?_;generalize (qcp b.off.lo (-720) 720||qcp b.off.hi (-720) 720||qcp b.set.lo (-720) 720||qcp b.set.hi (-720) 720)=A at he ⊢
      cases A with
      | true=>
       simp only[if_true]at he;conv=>whnf
       refine qf (qb (by(try dsimp only);omega)) ?_;conv=>whnf
       rw[<- he];exact qc 0 rfl ⟨⟨rfl,rfl⟩,rfl⟩
      | false=>
       simp only[if_false,Bool.false_eq_true]at he;conv=>whnf
       have e1:decide (b.off.lo>b.off.hi)=decide (b.off.hi<b.off.lo):=rfl;have e2:decide (b.set.lo>b.set.hi)=decide (b.set.hi<b.set.lo):=rfl;rw[e1,e2]at he;generalize decide (b.off.hi<b.off.lo)=A at he ⊢
       cases A with
       | true=>
        simp only[Bool.true_or,if_true]at he;conv=>whnf
        refine qf (qb (by(try dsimp only);omega)) ?_;conv=>whnf
        rw[<- he];exact qc 0 rfl ⟨⟨rfl,rfl⟩,rfl⟩
       | false=>
        simp only[Bool.false_or]at he;conv=>whnf
        generalize decide (b.set.hi<b.set.lo)=B at he ⊢
        cases B with
        | true=>
         simp only[if_true]at he;conv=>whnf
         refine qf (qb (by(try dsimp only);omega)) ?_;conv=>whnf
         rw[<- he];exact qc 0 rfl ⟨⟨rfl,rfl⟩,rfl⟩
        | false=>
         simp only[if_false,Bool.false_eq_true]at he;conv=>whnf
         refine qj (fun h3=>?_) (fun h3=>?_)
         ·have h3:b.ents.length>8:=by have:=of_decide_eq_true h3;simp at this;omega
          rw[if_pos h3]at he;conv=>whnf
          refine qf (qb (by(try dsimp only);omega)) ?_;conv=>whnf
          rw[<- he];exact qc 0 rfl ⟨⟨rfl,rfl⟩,rfl⟩
         ·have h3:¬ b.ents.length>8:=by have:=of_decide_eq_false h3;simp at this;omega
          rw[if_neg h3,if_pos rfl]at he;conv=>whnf
          generalize hE:qef b.ents 0=E at he;refine zr (T:=tys) ql (by exact qi mixed ql (by decide +kernel)) b.ents (fun k (_:Unit)=>⟨[(1,.ptr 1 0),(21,.d (qR l.books)),(22,.d (i64 l.books.length)),(23,.d (i64 i)),(5,.d (i64 i)),(88,.d (qeC b.ents)),(89,.d (i64 b.ents.length)),(90,.d (i64 k))],[(1,.box (.dd l.cells))],st⟩)
           (fun k r _=>qef r k=E) () (Wk.sub (by repeat' first|exact trivial|refine⟨?_,?_⟩|rfl|(simp only[List.length_map];rfl)|simp[PX.get]) ⟨(by first | rfl | (simp only[List.length_map];rfl) | simp[PX.get]),trivial⟩) hE ?_ ?_
          ·rintro k y r2 _ hy hk hr2 he2
           rw[qef]at he2;conv=>whnf
           refine qj (fun _=>?_) (fun h=>absurd hk (by simpa using h));conv=>whnf
           refine qw hy ?_;conv=>whnf
           refine qk (pa63 y) rfl rfl ?_;conv=>whnf
           refine qj (fun h4=>?_) (fun h4=>?_)
           ·have h4:¬ qlB y=0:=by simpa using h4
            rw[if_neg h4]at he2;subst he2;rw[if_neg h4]at he;conv=>whnf
            refine qf (qb (by(try dsimp only);omega)) ?_;conv=>whnf
            rw[<- he];exact qc 0 rfl ⟨⟨rfl,rfl⟩,rfl⟩
           ·have h4:qlB y=0:=by simpa using h4
            rw[if_pos h4]at he2;conv=>whnf
            refine qf (qb (by(try dsimp only);omega)) ?_;conv=>whnf
            exact⟨(),he2,(Wk.sub (by repeat' first|exact trivial|refine⟨?_,?_⟩|rfl|(simp only[List.length_map];rfl)|simp[PX.get]) ⟨(by first | rfl | (simp only[List.length_map];rfl) | simp[PX.get]),trivial⟩)⟩
          ·rintro _ he2
           have he2:((0,0):Int×Int)=E:=he2;subst he2;rw[if_pos rfl,<- htk]at he;conv=>whnf
           refine qj (fun h=>absurd h (by simp)) (fun _=>?_);conv=>whnf
           refine qf (qb (by(try dsimp only);omega)) ?_;conv=>whnf
           exact⟨(),he,(Wk.sub (by repeat' first|exact trivial|refine⟨?_,?_⟩|rfl|(simp only[List.length_map];rfl)|simp[PX.get]) ⟨(by first | rfl | (simp only[List.length_map];rfl) | simp[PX.get]),trivial⟩)⟩
   ·rintro _ he
    rw[qbu]at he;subst he;conv=>whnf
    refine qj (fun h=>absurd h (by simp)) (fun _=>?_);conv=>whnf
    exact qc 0 rfl ⟨⟨rfl,rfl⟩,rfl⟩
end Go.PX
namespace Go.PX
open Go.Proofs
section
variable {κ ν : Type} [DecidableEq κ] (kd : κ -> D) (vd : ν -> D)
def kvV(m:List (κ×ν)):List (D×D):=m.map fun p=>(kd p.1,vd p.2)
variable {kd vd}
theorem qt(hs:∀ a b,qds (kd a) (kd b)=some (decide (a=b))){t:κ}:∀ {m:List (κ×ν)},zu m t=none -> ∀ n,qdt (kd t) (kvV kd vd m) n=some none
 | [],_,n=>rfl
 | (u,x)::r,h,n=>by
  rw[zu]at h
  split at h
  ·cases h
  ·rename_i hu
   show(match qds (kd t) (kd u) with
    | some true=>some (some (n,vd x))
    | some false=>qdt (kd t) (kvV kd vd r) (n+1)
    | none=>none)=_
   rw[hs,decide_eq_false hu];exact qt hs h (n+1)
theorem qC(hs:∀ a b,qds (kd a) (kd b)=some (decide (a=b))){t:κ}{v:ν}:∀ {m:List (κ×ν)},zu m t=some v -> ∀ n,∃ i,i<m.length/\qdt (kd t) (kvV kd vd m) n=some (some (n+i,vd v))/\(∀ y,(kvV kd vd m).set i (kd t,vd y)=kvV kd vd (jL m t y))/\setKey (kvV kd vd m) i (kd t)=kvV kd vd m /\ ∀ y,setVal (kvV kd vd m) i (vd y)=kvV kd vd (jL m t y)
 | [],h,n=>by cases h
 | (u,x)::r,h,n=>by
  rw[zu]at h
  split at h
  ·rename_i hu
   cases h
   subst hu;refine⟨0,by simp,?_,fun y=>?_,rfl,fun y=>?_⟩
   ·show(match qds (kd t) (kd t) with
     | some true=>some (some (n,vd v))
     | some false=>qdt (kd t) (kvV kd vd r) (n+1)
     | none=>none)=_
    rw[hs,decide_eq_true rfl];rfl
   ·rw[jL,if_pos rfl];rfl
   ·rw[jL,if_pos rfl];rfl
  ·rename_i hu
   obtain⟨i,h0,h1,h2,h3,h4⟩:=qC hs h (n+1);refine⟨i+1,by simp;omega,?_,fun y=>?_,?_,fun y=>?_⟩
   ·show(match qds (kd t) (kd u) with
     | some true=>some (some (n,vd x))
     | some false=>qdt (kd t) (kvV kd vd r) (n+1)
     | none=>none)=_
    rw[hs,decide_eq_false hu];show qdt (kd t) (kvV kd vd r) (n+1)=_;rw[h1,show n+1+i=n+(i+1) by omega]
   ·rw[jL,if_neg hu]
    show(kd u,vd x)::(kvV kd vd r).set i (kd t,vd y)=(kd u,vd x)::kvV kd vd (jL r t y);rw[h2 y]
   ·show(kd u,vd x)::setKey (kvV kd vd r) i (kd t)=_
    rw[h3];rfl
   ·rw[jL,if_neg hu]
    show(kd u,vd x)::setVal (kvV kd vd r) i (vd y)=(kd u,vd x)::kvV kd vd (jL r t y);rw[h4 y]
theorem zf{t:κ}(y:ν):∀ {m:List (κ×ν)},zu m t=none->kvV kd vd m ++ [(kd t,vd y)]=kvV kd vd (jL m t y)
 | [],_=>rfl
 | (u,x)::r,h=>by
  rw[zu]at h
  split at h
  ·cases h
  ·rename_i hu
   rw[jL,if_neg hu];show(kd u,vd x)::(kvV kd vd r ++ [(kd t,vd y)])=_;rw[zf y h];rfl
end
def qD(n:Int):D:=i64 n
theorem zR(a b:Per):qds a.d b.d=some (decide (a=b)):=by
 show some (decide (a.book=b.book)&&(decide (a.n=b.n)&&true))=_
 congr 1
 cases a;cases b
 simp
theorem qv(a b:Int):qds (qD a) (qD b)=some (decide (a=b)):=rfl
def pmD(m:PM):List (D×D):=kvV Per.d qD m
def qnb(l:List zt):D:=.vs (l.map qqQ)
def persD(l:List (List Per)):D:=.vs (l.map fun r=>[.vs (r.map Per.cells)])
def lookC(l:PLog)(x:LkS):List D:=[i64 l.near,qR l.books,qnb x.steps,persD x.pers,i64 x.many]
def qac(l:PLog)(x:LkS):D:=.ref (lookC l x)
end Go.PX
namespace Go.PX
open Go.Proofs
theorem qps:FnV Tryz.prog 70 [] Per.right.d:=by
 refine qG mixed ql Tryz.func70 rfl (ft:=ft70) 0 (by decide +kernel) (by rfl) fun {σ} Y st=>?_;conv=>whnf
 exact qc 0 rfl ⟨⟨rfl,rfl⟩,rfl⟩
structure LookR(x:LkS):Prop where
 len:x.steps.length<=78
 w:∀ e∈x.steps,-1100000<=e.w/\e.w<=1100000
 many:0<=x.many/\x.many<=30
theorem qro(l:PLog)(x:LkS)(hR:LookR x)(p:Per):FnV Tryz.prog 69 [qac l x,p.d] (.tup [if qmV x (qcK x p)=true then .mv (pmD (qcK x p)) else .nilm,.bool (qmV x (qcK x p))]):=by
 refine qG mixed ql Tryz.func69 rfl (ft:=ft69) 2 (by decide +kernel) (by rfl) fun {σ} Y st=>?_;conv=>whnf
 have hlen:=hR.len;have hmany:=hR.many;have hst:x.steps.length<4000000000000000000:=by omega
 refine⟨none,rfl,?_⟩;conv=>whnf
 refine qm (((x.many+2).toNat:Nat):Int) (by omega) (qb (by omega)) ?_;conv=>whnf
 unfold qcK;have hK:(x.many+2).toNat<=32:=by omega
 generalize (x.many+2).toNat=N at hK ⊢;generalize hRES:qbR x.steps N [(p,0)]=RES;refine zP (T:=tys) ql (by exact qi mixed ql (by decide +kernel)) (α:=Nat×PM) (fun z=>⟨[(0,.d (qac l x)),(6,.mp 16),(23,.d (i64 N)),(24,.d (i64 z.1))],[(16,.map (pmD z.2))],st⟩)
  (fun z=>z.1<=N/\qlU z.2 (100000000*z.1)/\qbR x.steps (N-z.1) z.2=RES) (fun z=>N-z.1) (0,[(p,0)]) (Wk.sub (by repeat' first|exact trivial|refine⟨?_,?_⟩|rfl|(simp only[List.length_map];rfl)|simp[PX.get]) ⟨(by first | rfl | (simp only[List.length_map];rfl) | simp[PX.get]),trivial⟩) ⟨Nat.zero_le _,?_,by simpa using hRES⟩ ?_
 ·intro q v hv
  simp only at hv;rw[zu]at hv
  split at hv
  ·cases hv;simp
  ·cases hv
 rintro ⟨i,m⟩ ⟨hi,hb,hr⟩;simp only at hi hb hr;conv=>whnf
 refine qj (fun h1=>?_) (fun h1=>?_)
 ·have h1:i<N:=by have:=of_decide_eq_true h1;simp only at this;omega
  obtain⟨f,hf⟩:∃ f,N-i=f+1:=⟨N-i-1,by omega⟩;rw[hf,qbR]at hr;generalize hRM:qhF x.steps m=RM at hr;conv=>whnf
  refine zr (T:=tys) ql (by exact qi mixed ql (by decide +kernel)) x.steps (fun k (y:PM×Bool)=>⟨[(0,.d (qac l x)),(6,.mp 16),(7,.d (.bool y.2)),(23,.d (i64 N)),(24,.d (i64 i)),(29,.d (qnb x.steps)),(30,.d (i64 x.steps.length)),(31,.d (i64 k))],[(16,.map (pmD y.1))],st⟩)
   (fun k r y=>r.foldl qfP y=RM/\qlU y.1 (100000000*i+1100000*k)) (m,false) (Wk.sub (by repeat' first|exact trivial|refine⟨?_,?_⟩|rfl|(simp only[List.length_map];rfl)|simp[PX.get]) ⟨(by first | rfl | (simp only[List.length_map];rfl) | simp[PX.get]),trivial⟩) ⟨hRM,by simpa using hb⟩ ?_ ?_
  ·rintro k s r ⟨m1,ch⟩ hs hk hr2 ⟨hfold,hbm⟩
   have hsw:=hR.w s (List.mem_of_getElem? hs);have hb2:=qoI (m:=(m1,ch)) hbm hsw;rw[List.foldl_cons]at hfold;conv=>whnf
   refine qj (fun _=>?_) (fun h=>absurd hk (by simpa using h));conv=>whnf
   refine qw hs ?_;conv=>whnf
   cases h2:zu m1 s.a with
   | none=>
    have ht:qfP (m1,ch) s=(m1,ch):=by unfold qfP;simp only[h2]
    rw[ht]at hfold hb2;refine⟨none,qt (kd:=Per.d) zR h2 0,?_⟩;conv=>whnf
    refine qf (qb (by(try dsimp only);omega)) ?_;conv=>whnf
    exact⟨(m1,ch),⟨hfold,fun q v hv=>by have:=hb2 q v hv;omega⟩,(Wk.sub (by repeat' first|exact trivial|refine⟨?_,?_⟩|rfl|(simp only[List.length_map];rfl)|simp[PX.get]) ⟨(by first | rfl | (simp only[List.length_map];rfl) | simp[PX.get]),trivial⟩)⟩
   | some n=>
    have hn:=hbm s.a n h2;obtain⟨ix,_,hx1,_⟩:=qC (kd:=Per.d) (vd:=qD) zR h2 0;refine⟨_,hx1,?_⟩;conv=>whnf
    cases h3:zu m1 s.b with
    | none=>
     have ht:qfP (m1,ch) s=(jL m1 s.b (n+s.w),true):=by unfold qfP;simp only[h2,h3]
     refine⟨none,qt (kd:=Per.d) zR h3 0,?_⟩;conv=>whnf
     refine qf (qb (by(try dsimp only);omega)) ?_;conv=>whnf
     refine⟨none,qt (kd:=Per.d) zR h3 0,?_⟩;rw[ht]at hfold hb2;conv=>whnf
     refine qf (qb (by(try dsimp only);omega)) ?_;conv=>whnf
     refine⟨(jL m1 s.b (n+s.w),true),⟨hfold,fun q v hv=>by have:=hb2 q v hv;omega⟩,Wk.sub ⟨rfl,rfl,rfl,rfl,rfl,rfl,rfl,rfl,trivial⟩ ⟨?_,trivial⟩⟩;exact congrArg (fun z=>some (Obj.map z)) (zf (kd:=Per.d) (vd:=qD) (n+s.w) h3)
    | some v2=>
     obtain⟨iy,_,hy1,hy2,_⟩:=qC (kd:=Per.d) (vd:=qD) zR h3 0;refine⟨_,hy1,?_⟩;conv=>whnf
     refine qf (qb (by(try dsimp only);omega)) ?_;conv=>whnf
     refine qj (fun h4=>?_) (fun h4=>?_)
     ·have h4:n+s.w<v2:=of_decide_eq_true h4
      have ht:qfP (m1,ch) s=(jL m1 s.b (n+s.w),true):=by unfold qfP;simp only[h2,h3];rw[if_pos h4]
      conv=>whnf
      refine qf (qb (by(try dsimp only);omega)) ?_;conv=>whnf
      refine⟨_,hy1,?_⟩;rw[ht]at hfold hb2;conv=>whnf
      refine qf (qb (by(try dsimp only);omega)) ?_;conv=>whnf
      refine⟨(jL m1 s.b (n+s.w),true),⟨hfold,fun q v hv=>by have:=hb2 q v hv;omega⟩,Wk.sub ⟨rfl,rfl,rfl,rfl,rfl,rfl,rfl,rfl,trivial⟩ ⟨?_,trivial⟩⟩
      (show some (Obj.map ((pmD m1).set (0+iy) (s.b.d,i64 (n+s.w))))=_);rw[Nat.zero_add];exact congrArg (fun z=>some (Obj.map z)) (hy2 (n+s.w))
     ·have h4:¬ n+s.w<v2:=of_decide_eq_false h4
      have ht:qfP (m1,ch) s=(m1,ch):=by unfold qfP;simp only[h2,h3];rw[if_neg h4]
      rw[ht]at hfold hb2;conv=>whnf
      refine qf (qb (by(try dsimp only);omega)) ?_;conv=>whnf
      exact⟨(m1,ch),⟨hfold,fun q v hv=>by have:=hb2 q v hv;omega⟩,(Wk.sub (by repeat' first|exact trivial|refine⟨?_,?_⟩|rfl|(simp only[List.length_map];rfl)|simp[PX.get]) ⟨(by first | rfl | (simp only[List.length_map];rfl) | simp[PX.get]),trivial⟩)⟩
  ·rintro ⟨m1,ch⟩ ⟨hfold,hbm⟩
   have hfold:(m1,ch)=RM:=hfold;conv=>whnf
   refine qj (fun h=>absurd h (by simp)) (fun _=>?_);conv=>whnf
   refine qj (fun h2=>?_) (fun h2=>?_)
   ·have h2:ch=false:=by simpa using h2
    subst h2;rw[<- hfold]at hr;simp only[if_false,Bool.false_eq_true]at hr;subst hr;have hbT:qlU m1 10000000000:=fun q v hv=>by have:=hbm q v hv;omega
    clear hbm;conv=>whnf
    refine zr (T:=tys) ql (by exact qi mixed ql (by decide +kernel)) x.steps (fun k (_:Unit)=>⟨[(0,.d (qac l x)),(6,.mp 16),(75,.d (qnb x.steps)),(76,.d (i64 x.steps.length)),(77,.d (i64 k))],[(16,.map (pmD m1))],st⟩)
     (fun k r _=>qmV x m1=r.all fun s=>decide (atM m1 s.b<=atM m1 s.a+s.w)) () (Wk.sub (by repeat' first|exact trivial|refine⟨?_,?_⟩|rfl|(simp only[List.length_map];rfl)|simp[PX.get]) ⟨(by first | rfl | (simp only[List.length_map];rfl) | simp[PX.get]),trivial⟩) rfl ?_ ?_
    ·rintro k s r _ hs hk hr2 hall
     have hsw:=hR.w s (List.mem_of_getElem? hs);rw[List.all_cons]at hall;conv=>whnf
     refine qj (fun _=>?_) (fun h=>absurd hk (by simpa using h));conv=>whnf
     refine qw hs ?_;conv=>whnf
     have hba:=hbT s.a;have hbb:=hbT s.b
     cases h2:zu m1 s.a with
     | none=>
      have e1:atM m1 s.a=0:=by unfold atM;rw[h2];rfl
      rw[e1]at hall;refine⟨none,qt (kd:=Per.d) zR h2 0,?_⟩;conv=>whnf
      refine qf (qb (by(try dsimp only);omega)) ?_;conv=>whnf
      cases h3:zu m1 s.b with
      | none=>
       have e2:atM m1 s.b=0:=by unfold atM;rw[h3];rfl
       rw[e2]at hall;refine⟨none,qt (kd:=Per.d) zR h3 0,?_⟩;conv=>whnf
       refine qj (fun h4=>?_) (fun h4=>?_)
       ·have h4:0+s.w<0:=of_decide_eq_true h4
        rw[decide_eq_false (by omega),Bool.false_and]at hall;rw[hall];simp only[if_false,Bool.false_eq_true];conv=>whnf
        exact qc 0 rfl ⟨⟨rfl,rfl⟩,rfl⟩
       ·have h4:¬ 0+s.w<0:=of_decide_eq_false h4
        rw[decide_eq_true (by omega),Bool.true_and]at hall;conv=>whnf
        refine qf (qb (by(try dsimp only);omega)) ?_;conv=>whnf
        exact⟨(),hall,(Wk.sub (by repeat' first|exact trivial|refine⟨?_,?_⟩|rfl|(simp only[List.length_map];rfl)|simp[PX.get]) ⟨(by first | rfl | (simp only[List.length_map];rfl) | simp[PX.get]),trivial⟩)⟩
      | some v2=>
       have e2:atM m1 s.b=v2:=by unfold atM;rw[h3];rfl
       rw[e2]at hall;obtain⟨iy,_,hy1,_⟩:=qC (kd:=Per.d) (vd:=qD) zR h3 0;refine⟨_,hy1,?_⟩;conv=>whnf
       refine qj (fun h4=>?_) (fun h4=>?_)
       ·have h4:0+s.w<v2:=of_decide_eq_true h4
        rw[decide_eq_false (by omega),Bool.false_and]at hall;rw[hall];simp only[if_false,Bool.false_eq_true];conv=>whnf
        exact qc 0 rfl ⟨⟨rfl,rfl⟩,rfl⟩
       ·have h4:¬ 0+s.w<v2:=of_decide_eq_false h4
        rw[decide_eq_true (by omega),Bool.true_and]at hall;conv=>whnf
        refine qf (qb (by(try dsimp only);omega)) ?_;conv=>whnf
        exact⟨(),hall,(Wk.sub (by repeat' first|exact trivial|refine⟨?_,?_⟩|rfl|(simp only[List.length_map];rfl)|simp[PX.get]) ⟨(by first | rfl | (simp only[List.length_map];rfl) | simp[PX.get]),trivial⟩)⟩
     | some n=>
      have hn:=hba n h2;have e1:atM m1 s.a=n:=by unfold atM;rw[h2];rfl
      rw[e1]at hall;obtain⟨ix,_,hx1,_⟩:=qC (kd:=Per.d) (vd:=qD) zR h2 0;refine⟨_,hx1,?_⟩;conv=>whnf
      refine qf (qb (by(try dsimp only);omega)) ?_;conv=>whnf
      cases h3:zu m1 s.b with
      | none=>
       have e2:atM m1 s.b=0:=by unfold atM;rw[h3];rfl
       rw[e2]at hall;refine⟨none,qt (kd:=Per.d) zR h3 0,?_⟩;conv=>whnf
       refine qj (fun h4=>?_) (fun h4=>?_)
       ·have h4:n+s.w<0:=of_decide_eq_true h4
        rw[decide_eq_false (by omega),Bool.false_and]at hall;rw[hall];simp only[if_false,Bool.false_eq_true];conv=>whnf
        exact qc 0 rfl ⟨⟨rfl,rfl⟩,rfl⟩
       ·have h4:¬ n+s.w<0:=of_decide_eq_false h4
        rw[decide_eq_true (by omega),Bool.true_and]at hall;conv=>whnf
        refine qf (qb (by(try dsimp only);omega)) ?_;conv=>whnf
        exact⟨(),hall,(Wk.sub (by repeat' first|exact trivial|refine⟨?_,?_⟩|rfl|(simp only[List.length_map];rfl)|simp[PX.get]) ⟨(by first | rfl | (simp only[List.length_map];rfl) | simp[PX.get]),trivial⟩)⟩
      | some v2=>
       have e2:atM m1 s.b=v2:=by unfold atM;rw[h3];rfl
       rw[e2]at hall;obtain⟨iy,_,hy1,_⟩:=qC (kd:=Per.d) (vd:=qD) zR h3 0;refine⟨_,hy1,?_⟩;conv=>whnf
       refine qj (fun h4=>?_) (fun h4=>?_)
       ·have h4:n+s.w<v2:=of_decide_eq_true h4
        rw[decide_eq_false (by omega),Bool.false_and]at hall;rw[hall];simp only[if_false,Bool.false_eq_true];conv=>whnf
        exact qc 0 rfl ⟨⟨rfl,rfl⟩,rfl⟩
       ·have h4:¬ n+s.w<v2:=of_decide_eq_false h4
        rw[decide_eq_true (by omega),Bool.true_and]at hall;conv=>whnf
        refine qf (qb (by(try dsimp only);omega)) ?_;conv=>whnf
        exact⟨(),hall,(Wk.sub (by repeat' first|exact trivial|refine⟨?_,?_⟩|rfl|(simp only[List.length_map];rfl)|simp[PX.get]) ⟨(by first | rfl | (simp only[List.length_map];rfl) | simp[PX.get]),trivial⟩)⟩
    ·rintro _ hall
     have hall:qmV x m1=true:=hall;rw[hall];simp only[if_true];conv=>whnf
     refine qj (fun h=>absurd h (by simp)) (fun _=>?_);conv=>whnf
     refine qc 1 (ds:=[.mv (pmD m1),.bool true]) (qH (qgB rfl) rfl) ⟨⟨rfl,rfl⟩,rfl⟩
   ·have h2:ch=true:=by simpa using h2
    subst h2;rw[<- hfold]at hr;simp only[if_true]at hr;conv=>whnf
    refine qf (qb (by(try dsimp only);omega)) ?_;conv=>whnf
    exact⟨(i+1,m1),by simp only;omega,⟨by simp only;omega,fun q v hv=>by have:=hbm q v hv;simp only;omega,by simp only;rw[show N-(i+1)=f by omega];exact hr⟩,(Wk.sub (by repeat' first|exact trivial|refine⟨?_,?_⟩|rfl|(simp only[List.length_map];rfl)|simp[PX.get]) ⟨(by first | rfl | (simp only[List.length_map];rfl) | simp[PX.get]),trivial⟩)⟩
 ·have h1:¬ i<N:=by have:=of_decide_eq_false h1;simp only at this;omega
  have hm:m=RES:=by rw[show N-i=0 by omega,qbR]at hr;exact hr
  subst hm;have hbT:qlU m 10000000000:=fun q v hv=>by have:=hb q v hv;omega
  clear hb;conv=>whnf
  refine zr (T:=tys) ql (by exact qi mixed ql (by decide +kernel)) x.steps (fun k (_:Unit)=>⟨[(0,.d (qac l x)),(6,.mp 16),(75,.d (qnb x.steps)),(76,.d (i64 x.steps.length)),(77,.d (i64 k))],[(16,.map (pmD m))],st⟩)
   (fun k r _=>qmV x m=r.all fun s=>decide (atM m s.b<=atM m s.a+s.w)) () (Wk.sub (by repeat' first|exact trivial|refine⟨?_,?_⟩|rfl|(simp only[List.length_map];rfl)|simp[PX.get]) ⟨(by first | rfl | (simp only[List.length_map];rfl) | simp[PX.get]),trivial⟩) rfl ?_ ?_
  ·rintro k s r _ hs hk hr2 hall
   have hsw:=hR.w s (List.mem_of_getElem? hs);rw[List.all_cons]at hall;conv=>whnf
   refine qj (fun _=>?_) (fun h=>absurd hk (by simpa using h));conv=>whnf
   refine qw hs ?_;conv=>whnf
   have hba:=hbT s.a;have hbb:=hbT s.b
   cases h2:zu m s.a with
   | none=>
    have e1:atM m s.a=0:=by unfold atM;rw[h2];rfl
    rw[e1]at hall;refine⟨none,qt (kd:=Per.d) zR h2 0,?_⟩;conv=>whnf
    refine qf (qb (by(try dsimp only);omega)) ?_;conv=>whnf
    cases h3:zu m s.b with
    | none=>
     have e2:atM m s.b=0:=by unfold atM;rw[h3];rfl
     rw[e2]at hall;refine⟨none,qt (kd:=Per.d) zR h3 0,?_⟩;conv=>whnf
     refine qj (fun h4=>?_) (fun h4=>?_)
     ·have h4:0+s.w<0:=of_decide_eq_true h4
      rw[decide_eq_false (by omega),Bool.false_and]at hall;rw[hall];simp only[if_false,Bool.false_eq_true];conv=>whnf
      exact qc 0 rfl ⟨⟨rfl,rfl⟩,rfl⟩
     ·have h4:¬ 0+s.w<0:=of_decide_eq_false h4
      rw[decide_eq_true (by omega),Bool.true_and]at hall;conv=>whnf
      refine qf (qb (by(try dsimp only);omega)) ?_;conv=>whnf
      exact⟨(),hall,(Wk.sub (by repeat' first|exact trivial|refine⟨?_,?_⟩|rfl|(simp only[List.length_map];rfl)|simp[PX.get]) ⟨(by first | rfl | (simp only[List.length_map];rfl) | simp[PX.get]),trivial⟩)⟩
    | some v2=>
     have e2:atM m s.b=v2:=by unfold atM;rw[h3];rfl
     rw[e2]at hall;obtain⟨iy,_,hy1,_⟩:=qC (kd:=Per.d) (vd:=qD) zR h3 0;refine⟨_,hy1,?_⟩;conv=>whnf
     refine qj (fun h4=>?_) (fun h4=>?_)
     ·have h4:0+s.w<v2:=of_decide_eq_true h4
      rw[decide_eq_false (by omega),Bool.false_and]at hall;rw[hall];simp only[if_false,Bool.false_eq_true];conv=>whnf
      exact qc 0 rfl ⟨⟨rfl,rfl⟩,rfl⟩
     ·have h4:¬ 0+s.w<v2:=of_decide_eq_false h4
      rw[decide_eq_true (by omega),Bool.true_and]at hall;conv=>whnf
      refine qf (qb (by(try dsimp only);omega)) ?_;conv=>whnf
      exact⟨(),hall,(Wk.sub (by repeat' first|exact trivial|refine⟨?_,?_⟩|rfl|(simp only[List.length_map];rfl)|simp[PX.get]) ⟨(by first | rfl | (simp only[List.length_map];rfl) | simp[PX.get]),trivial⟩)⟩
   | some n=>
    have hn:=hba n h2;have e1:atM m s.a=n:=by unfold atM;rw[h2];rfl
    rw[e1]at hall;obtain⟨ix,_,hx1,_⟩:=qC (kd:=Per.d) (vd:=qD) zR h2 0;refine⟨_,hx1,?_⟩;conv=>whnf
    refine qf (qb (by(try dsimp only);omega)) ?_;conv=>whnf
    cases h3:zu m s.b with
    | none=>
     have e2:atM m s.b=0:=by unfold atM;rw[h3];rfl
     rw[e2]at hall;refine⟨none,qt (kd:=Per.d) zR h3 0,?_⟩;conv=>whnf
     refine qj (fun h4=>?_) (fun h4=>?_)
     ·have h4:n+s.w<0:=of_decide_eq_true h4
      rw[decide_eq_false (by omega),Bool.false_and]at hall;rw[hall];simp only[if_false,Bool.false_eq_true];conv=>whnf
      exact qc 0 rfl ⟨⟨rfl,rfl⟩,rfl⟩
     ·have h4:¬ n+s.w<0:=of_decide_eq_false h4
      rw[decide_eq_true (by omega),Bool.true_and]at hall;conv=>whnf
      refine qf (qb (by(try dsimp only);omega)) ?_;conv=>whnf
      exact⟨(),hall,(Wk.sub (by repeat' first|exact trivial|refine⟨?_,?_⟩|rfl|(simp only[List.length_map];rfl)|simp[PX.get]) ⟨(by first | rfl | (simp only[List.length_map];rfl) | simp[PX.get]),trivial⟩)⟩
    | some v2=>
     have e2:atM m s.b=v2:=by unfold atM;rw[h3];rfl
     rw[e2]at hall;obtain⟨iy,_,hy1,_⟩:=qC (kd:=Per.d) (vd:=qD) zR h3 0;refine⟨_,hy1,?_⟩;conv=>whnf
     refine qj (fun h4=>?_) (fun h4=>?_)
     ·have h4:n+s.w<v2:=of_decide_eq_true h4
      rw[decide_eq_false (by omega),Bool.false_and]at hall;rw[hall];simp only[if_false,Bool.false_eq_true];conv=>whnf
      exact qc 0 rfl ⟨⟨rfl,rfl⟩,rfl⟩
     ·have h4:¬ n+s.w<v2:=of_decide_eq_false h4
      rw[decide_eq_true (by omega),Bool.true_and]at hall;conv=>whnf
      refine qf (qb (by(try dsimp only);omega)) ?_;conv=>whnf
      exact⟨(),hall,(Wk.sub (by repeat' first|exact trivial|refine⟨?_,?_⟩|rfl|(simp only[List.length_map];rfl)|simp[PX.get]) ⟨(by first | rfl | (simp only[List.length_map];rfl) | simp[PX.get]),trivial⟩)⟩
  ·rintro _ hall
   have hall:qmV x m=true:=hall;rw[hall];simp only[if_true];conv=>whnf
   refine qj (fun h=>absurd h (by simp)) (fun _=>?_);conv=>whnf
   refine qc 1 (ds:=[.mv (pmD m),.bool true]) (qH (qgB rfl) rfl) ⟨⟨rfl,rfl⟩,rfl⟩
end Go.PX
namespace Go.PX
open Go.Proofs
theorem qnc{x:LkS}(hR:LookR x):∀ (l:List zt) {y:PM×Bool} {B:Int},(∀ e∈l,e∈x.steps)->qlU y.1 B->qlU (l.foldl qfP y).1 (B+1100000*l.length)
 | [],y,B,_,h=>by simpa using h
 | s::r,y,B,hl,h=>by
  rw[List.foldl_cons];have:=qnc hR r (fun e he=>hl e (by simp[he])) (qoI h (hR.w s (hl s (by simp))));intro p v hv;have:=this p v hv;rw[List.length_cons];omega
theorem qiK{x:LkS}(hR:LookR x):∀ (k:Nat) {m:PM} {B:Int},qlU m B->0<=B->qlU (qbR x.steps k m) (B+100000000*k)
 | 0,m,B,h,_=>by rw[qbR];simpa using h
 | k+1,m,B,h,hB=>by
  have h1:=qnc hR x.steps (y:=(m,false)) (fun e he=>he) h;have hl:=hR.len;have h2:qlU (qhF x.steps m).1 (B+100000000):=fun p v hv=>by have:=h1 p v hv;omega
  rw[qbR]
  split
  ·intro p v hv
   have:=qiK hR k h2 (by omega) p v hv;omega
  ·intro p v hv
   have:=h2 p v hv;omega
theorem far_bnd{x:LkS}(hR:LookR x)(p:Per):qlU (qcK x p) 4000000000:=by
 have h0:qlU [(p,(0:Int))] 0:=fun q v hv=>by
  rw[zu]at hv
  split at hv
  ·cases hv;simp
  ·cases hv
 have:=qiK hR (x.many+2).toNat h0 (Int.le_refl 0);have hm:=hR.many;intro q v hv;have:=this q v hv;omega
theorem qkX{x:LkS}(hR:LookR x)(p q:Per) : -4000000000<=atM (qcK x p) q/\atM (qcK x p) q<=4000000000:=by
 unfold atM
 cases h:zu (qcK x p) q with
 | none=>simp
 | some v=>exact far_bnd hR p q v h
theorem qlW(m:PM)(q:Per):∃ r,qdt q.d (pmD m) 0=some r/\((r=none/\atM m q=0) \/ ∃ i,r=some (i,i64 (atM m q))):=by
 cases h:zu m q with
 | none=>exact⟨none,qt (kd:=Per.d) zR h 0,.inl ⟨rfl,by unfold atM;rw[h];rfl⟩⟩
 | some v=>
  obtain⟨ix,_,hx,_⟩:=qC (kd:=Per.d) (vd:=qD) zR h 0;exact⟨_,hx,.inr ⟨0+ix,by unfold atM;rw[h];rfl⟩⟩
theorem qse(l:PLog)(x:LkS)(hR:LookR x)(p q:Per)(hp:qmV x (qcK x p)=true)(hq:qmV x (qcK x q)=true):FnV Tryz.prog 72 [qac l x,p.d,q.d] (zD x p q).d:=by
 refine qG mixed ql Tryz.func72 rfl (ft:=ft72) 3 (by decide +kernel) (by rfl) fun {σ} Y st=>?_;conv=>whnf
 have h1:FnV Tryz.prog 69 [qac l x,q.d] (.tup [.mv (pmD (qcK x q)),.bool true]):=FnV.cast (fun {σ}=>qro l x hR q) (by rw[hq];rfl);have h2:FnV Tryz.prog 69 [qac l x,p.d] (.tup [.mv (pmD (qcK x p)),.bool true]):=FnV.cast (fun {σ}=>qro l x hR p) (by rw[hp];rfl);have hb:=qkX hR p q;refine qk (h1) rfl rfl ?_;conv=>whnf
 refine qk (h2) rfl rfl ?_;conv=>whnf
 obtain⟨r1,hr1,hc1⟩:=qlW (qcK x p) q;refine⟨r1,hr1,?_⟩
 rcases hc1 with⟨rfl,e1⟩ | ⟨i1,rfl⟩
 ·conv=>whnf
  refine qf (qb (by(try dsimp only);omega)) ?_;conv=>whnf
  obtain⟨r2,hr2,hc2⟩:=qlW (qcK x q) p;refine⟨r2,hr2,?_⟩
  rcases hc2 with⟨rfl,e2⟩ | ⟨i2,rfl⟩
  ·have hd:(zD x p q).d = .agg [i64 (0-0),i64 0]:=by unfold zD;rw[e2,Int.zero_sub];rw[e1];rfl
   rw[hd];conv=>whnf
   exact qc 0 rfl ⟨⟨rfl,rfl⟩,rfl⟩
  ·have hd:(zD x p q).d = .agg [i64 (0-0),i64 (atM (qcK x q) p)]:=by unfold zD;rw[Int.zero_sub];rw[e1];rfl
   rw[hd];conv=>whnf
   exact qc 0 rfl ⟨⟨rfl,rfl⟩,rfl⟩
 ·conv=>whnf
  refine qf (qb (by(try dsimp only);omega)) ?_;conv=>whnf
  obtain⟨r2,hr2,hc2⟩:=qlW (qcK x q) p;refine⟨r2,hr2,?_⟩
  rcases hc2 with⟨rfl,e2⟩ | ⟨i2,rfl⟩
  ·have hd:(zD x p q).d = .agg [i64 (0-atM (qcK x p) q),i64 0]:=by unfold zD;rw[e2,Int.zero_sub];rfl
   rw[hd];conv=>whnf
   exact qc 0 rfl ⟨⟨rfl,rfl⟩,rfl⟩
  ·have hd:(zD x p q).d = .agg [i64 (0-atM (qcK x p) q),i64 (atM (qcK x q) p)]:=by unfold zD;rw[Int.zero_sub];rfl
   rw[hd];conv=>whnf
   exact qc 0 rfl ⟨⟨rfl,rfl⟩,rfl⟩
end Go.PX
namespace Go.PX
open Go.Proofs
def qcD(l:PLog)(i:Int):PBook:=(l.books[i.toNat]?).getD ⟨.empty,⟨0,0⟩,⟨0,0⟩,[]⟩
def qK(l:PLog):Int:=(qaM l).2.2
def qoJ(l:PLog):Bool×Int:=if qK l=0 then (qcn l 0 [],0) else (false,qK l)
def qqR(l:PLog)(book:Int):List Span:=(List.range (zm (qcD l book).ents+1)).map fun(n:Nat)=>zD (qY l 0 []) ⟨book,n⟩ .right
def qlX(l:PLog)(book:Int):List Span×Int:=
 if qK l=0 then
  if qcp book 0 ((l.books.length:Int)-1) then ([],4)
  else if qcn l 0 [] then (qqR l book,0) else ([],9)
 else ([],qK l)
def qke(l:PLog)(x:PAt):Bool:=!qcp x.book 0 ((l.books.length:Int)-1) && !qcp x.entry 0 (((qcD l x.book).ents.length:Int)-1)
def qan(l:PLog)(xs:List PAt):Int:=if qK l=0 then (if xs.all (qke l) then 0 else 4) else qK l
def qhZ(l:PLog)(xs:List PAt):Int:=if qan l xs=0 then (if qcn l 0 [] then 0 else 9) else qan l xs
def qnR(l:PLog)(x:PAt):Per:=qkO (qY l 0 []).pers x
def qpt(l:PLog)(x:PAt):Span:=
 ⟨(qdO l x).shown-(zD (qY l 0 []) (qnR l x) .right).hi,(qdO l x).shown-(zD (qY l 0 []) (qnR l x) .right).lo⟩
def qjF(l:PLog)(x:PAt):Span×Int:=if qhZ l [x]=0 then (qpt l x,0) else (⟨0,0⟩,qhZ l [x])
def qax(l:PLog)(a b:PAt):Span:=
 ⟨((qdO l b).shown-(qdO l a).shown)-(zD (qY l 0 []) (qnR l b) (qnR l a)).hi,((qdO l b).shown-(qdO l a).shown)-(zD (qY l 0 []) (qnR l b) (qnR l a)).lo⟩
def qnd(s:Span):Int:=if s=⟨0,0⟩ then 3 else if 0<s.lo then 1 else if s.hi<0 then 2 else 0
def qch(l:PLog)(a b:PAt):Span×Int×Int:=if qhZ l [a,b]=0 then (qax l a b,qnd (qax l a b),0) else (⟨0,0⟩,0,qhZ l [a,b])
def qoK(l:PLog)(x:PAt)(i k:Nat)(y:PEnt):Bool:=
 !decide ((i:Int)=x.book)&&(decide (y.kind=1)&&(decide (y.word=(qdO l x).word)&&(decide ((qax l x ⟨i,k⟩).lo<=l.near)&&decide (-l.near<=(qax l x ⟨i,k⟩).hi))))
def qia(l:PLog)(x:PAt)(i:Nat):Nat->List PEnt->List PAt
 | _,[]=>[]
 | k,y::r=>if qoK l x i k y then ⟨i,k⟩::qia l x i (k+1) r else qia l x i (k+1) r
def qbT(l:PLog)(x:PAt):Nat->List PBook->List PAt
 | _,[]=>[]
 | i,b::r=>qia l x i 0 b.ents++qbT l x (i+1) r
def qib(l:PLog)(x:PAt):List PAt×Int:=
 if qan l [x]=0 then
  if (qdO l x).kind=1 then (if qcn l 0 [] then (qbT l x 0 l.books,0) else ([],9)) else ([],2)
 else ([],qan l [x])
def qbj(does:Int->Bool):Nat->Int->Int->Int
 | 0,_,hi=>hi
 | k+1,lo,hi=>if hi-lo>1 then (if does ((lo+hi)/2) then qbj does k lo ((lo+hi)/2) else qbj does k ((lo+hi)/2) hi) else hi
def qoL(l:PLog):Int×Int:=
 if qK l=0 then (if qcn l 1048576 [] then (qbj (fun w=>qcn l w []) 40 (-1) 1048576,0) else (0,9)) else (0,qK l)
def qne(b:PBook)(n:Int):Nat:=(b.ents.filter fun y=>decide (y.kind=3/\y.number=n)).length
def inN(l:PLog)(n:Int):Nat:=(l.books.filter fun b=>decide (0<qne b n)).length
def qpu(l:PLog)(n:Int):Nat:=(l.books.map fun b=>qne b n).foldl max 0
def qjG(l:PLog):List Int:=((List.range' 0 100).map fun(n:Nat)=>(n:Int)).filter fun n=>decide (1<inN l n)
def qdn(of:List Int):Nat->List Int->Nat->List (List Int)
 | 0,p,_=>[p]
 | left+1,p,start=>(List.range' start (of.length-left-start)).flatMap fun(i:Nat)=>qdn of left (p ++ [(of[i]?).getD 0]) (i+1)
def qkY(of:List Int):List (List Int):=(List.range' 0 (of.length+1)).flatMap fun(n:Nat)=>qdn of n [] 0
def qpv(l:PLog):List Int×Int:=
 if qK l=0 then (match (qkY (qjG l)).find? (qcn l 0) with
  | some c=>(c,0)
  | none=>([],9)) else ([],qK l)
def qkZ(l:PLog):List PEnt:=(l.books.flatMap PBook.ents).filter fun y=>decide (y.kind=3)
def qgn:List (Int×ByteArray)->List PEnt->Bool
 | _,[]=>false
 | m,y::r=>match zu m y.number with
  | some w=>if w=y.word then qgn (jL m y.number y.word) r else true
  | none=>qgn (jL m y.number y.word) r
def qjH(l:PLog):Int:=(qkZ l).foldl (fun m y=>max m y.number) 0
def qqS(l:PLog):List Int:=((List.range' 1 (qjH l).toNat).map fun(n:Nat)=>(n:Int)).filter fun n=>decide (inN l n=0)
def qqT(l:PLog):List Int:=((List.range' 1 (qjH l).toNat).map fun(n:Nat)=>(n:Int)).filter fun n=>decide (inN l n≠0)&&decide (1<qpu l n)
def qqU(l:PLog):List Int×List Int×Int:=
 if qK l=0 then (if qgn [] (qkZ l) then ([],[],5) else (qqS l,qqT l,0)) else ([],[],qK l)
theorem qnf:∀ {r:List PEnt} {k:Nat},(∀ x∈r,qlB x=0)->qef r k=(0,0)
 | [],_,_=>rfl
 | y::r,k,h=>by rw[qef,if_pos (h y (List.mem_cons_self ..))];exact qnf fun x hx=>h x (List.mem_cons_of_mem _ hx)
theorem qng:∀ {r:List PEnt} {k:Nat},(qef r k).2=0 -> ∀ x∈r,qlB x=0
 | [],_,_,x,hx=>by cases hx
 | y::r,k,h,x,hx=>by
  rw[qef]at h
  split at h
  ·rename_i h1
   rcases List.mem_cons.1 hx with rfl | hx
   ·exact h1
   ·exact qng h x hx
  ·rename_i h1;exact absurd h h1
theorem qiL:∀ {bs pre:List PBook} {i:Nat},(qbu pre bs i).2.2=0 ↔ ∀ k b,bs[k]?=some b->qhH (pre++bs.take k) b=0 /\ ∀ x∈b.ents,qlB x=0
 | [],pre,i=>by simp[qbu]
 | c::r,pre,i=>by
  rw[qbu]
  by_cases h1:qhH pre c=0
  ·rw[if_pos h1]
   by_cases h2:(qef c.ents 0).2=0
   ·rw[if_pos h2,qiL]
    constructor
    ·intro h k b hb
     cases k with
     | zero=>
      rw[List.getElem?_cons_zero]at hb
      cases hb
      rw[List.take_zero,List.append_nil];exact⟨h1,qng h2⟩
     | succ k=>
      rw[List.getElem?_cons_succ]at hb;have:=h k b hb;rw[List.take_succ_cons]
      rwa [List.append_assoc]at this
    ·intro h k b hb
     have:=h (k+1) b (by rw[List.getElem?_cons_succ];exact hb);rw[List.take_succ_cons]at this
     rwa [List.append_assoc]
   ·rw[if_neg h2]
    constructor
    ·intro h;exact absurd h h2
    ·intro h
     have:=(h 0 c rfl).2;exact absurd (by rw[qnf this]) h2
  ·rw[if_neg h1]
   constructor
   ·intro h;exact absurd h h1
   ·intro h
    have:=(h 0 c rfl).1;rw[List.take_zero,List.append_nil]at this;exact absurd this h1
theorem qlY{n lo hi:Int}:inB n lo hi=true↔lo<=n/\n<=hi:=by
 unfold inB;rw[Bool.and_eq_true,decide_eq_true_eq,decide_eq_true_eq]
theorem zS{n lo hi:Int}:qcp n lo hi=false↔lo<=n/\n<=hi:=by
 unfold qcp;rw[Bool.not_eq_false',qlY]
theorem qfn{l:PLog}:qK l=0↔(0<=l.near/\l.near<=60)/\(1<=l.books.length/\l.books.length<=3) /\ ∀ k b,l.books[k]?=some b->qhH (l.books.take k) b=0 /\ ∀ x∈b.ents,qlB x=0:=by
 unfold qK qaM
 cases h1:qcp l.near 0 60 with
 | true=>
  simp only[if_true];constructor
  ·intro h;cases h
  ·intro h
   have:=zS.2 h.1;rw[h1]at this;cases this
 | false=>
  simp only[Bool.false_eq_true,if_false];have h1:=zS.1 h1
  cases h2:qcp l.books.length 1 3 with
  | true=>
   simp only[if_true];constructor
   ·intro h;cases h
   ·intro h
    have:=zS (n:=l.books.length) (lo:=1) (hi:=3) |>.2 (by omega)
    rw[h2]at this;cases this
  | false=>
   simp only[Bool.false_eq_true,if_false];have h2:=zS.1 h2;rw[qiL];simp only[List.nil_append];exact⟨fun h=>⟨h1,by omega,h⟩,fun h=>h.2.2⟩
theorem qbU{l:PLog}(h:qK l=0):qaM l=(0,0,0):=by
 have key:∀ {bs pre:List PBook} {i:Nat},(qbu pre bs i).2.2=0->qbu pre bs i=(0,0,0):=by
  intro bs
  induction bs with
  | nil=>intros;rfl
  | cons c r ih=>
   intro pre i h;rw[qbu]at h ⊢
   by_cases h1:qhH pre c=0
   ·rw[if_pos h1]at h ⊢
    by_cases h2:(qef c.ents 0).2=0
    ·rw[if_pos h2]at h ⊢
     exact ih h
    ·rw[if_neg h2]at h;exact absurd h h2
   ·rw[if_neg h1]at h;exact absurd h h1
 have hi:=qfn.1 h;have h1:=zS.2 hi.1;have h2:=zS (n:=l.books.length) (lo:=1) (hi:=3) |>.2 (by omega)
 unfold qK qaM at h;unfold qaM;rw[h1,h2]at h ⊢;simp only[Bool.false_eq_true,if_false]at h ⊢;exact key h
structure EntR(x:PEnt):Prop where
 shown:0<=x.shown/\x.shown<=20000
 kind:1<=x.kind/\x.kind<=3
 number:0<=x.number/\x.number<=99
 pass:x.kind=1->qaJ x.word=true/\x.number=0
 set:x.kind=2->x.word = .empty/\x.number=0
 rep:x.kind=3->qaJ x.word=true/\1<=x.number
theorem qnh{x:PEnt}:qlB x=0↔EntR x:=by
 unfold qlB
 cases h0:qcp x.shown 0 20000 with
 | true=>
  simp only[if_true];refine⟨fun h=>(by cases h),fun h=>?_⟩;have:=zS.2 h.shown;rw[h0]at this;cases this
 | false=>
  have h0:=zS.1 h0;simp only[Bool.false_eq_true,if_false]
  by_cases h1:x.kind=1
  ·rw[if_pos h1]
   constructor
   ·intro h
    split at h
    case isFalse=>cases h
    rename_i h2;rw[Bool.and_eq_true,decide_eq_true_eq]at h2;exact⟨h0,by omega,by omega,fun _=>h2,fun h=>by omega,fun h=>by omega⟩
   ·intro h
    rw[if_pos (by rw[(h.pass h1).1,decide_eq_true (h.pass h1).2];rfl)]
  ·rw[if_neg h1]
   by_cases h2:x.kind=2
   ·rw[if_pos h2]
    constructor
    ·intro h
     split at h
     case isFalse=>cases h
     rename_i h3;rw[Bool.and_eq_true,decide_eq_true_eq,decide_eq_true_eq]at h3;exact⟨h0,by omega,by omega,fun h=>by omega,fun _=>h3,fun h=>by omega⟩
    ·intro h
     rw[if_pos (by rw[decide_eq_true (h.set h2).1,decide_eq_true (h.set h2).2];rfl)]
   ·rw[if_neg h2]
    by_cases h3:x.kind=3
    ·rw[if_pos h3]
     constructor
     ·intro h
      split at h
      case isFalse=>cases h
      rename_i h4;rw[Bool.and_eq_true,Bool.not_eq_true',zS]at h4;exact⟨h0,by omega,by omega,fun h=>by omega,fun h=>by omega,fun _=>⟨h4.1,h4.2.1⟩⟩
     ·intro h
      have:=zS (n:=x.number) (lo:=1) (hi:=99) |>.2 ⟨(h.rep h3).2,h.number.2⟩
      rw[if_pos (by rw[(h.rep h3).1,this];rfl)]
    ·rw[if_neg h3]
     exact⟨fun h=>(by cases h),fun h=>by have:=h.kind;omega⟩
structure HeadR(pre:List PBook)(b:PBook):Prop where
 name:qaJ b.name=true
 fresh:∀ x∈pre,x.name≠b.name
 off : -720<=b.off.lo/\b.off.lo<=b.off.hi/\b.off.hi<=720
 set : -720<=b.set.lo/\b.set.lo<=b.set.hi/\b.set.hi<=720
 ents:b.ents.length<=8
theorem qhI{pre:List PBook}{b:PBook}:qhH pre b=0↔HeadR pre b:=by
 unfold qhH
 cases h1:qaJ b.name with
 | false=>
  simp only[Bool.false_eq_true,if_false];exact⟨fun h=>(by cases h),fun h=>by rw[h.name]at h1;cases h1⟩
 | true=>
  simp only[if_true]
  cases h2:pre.any fun x=>decide (x.name=b.name) with
  | true=>
   simp only[if_true];refine⟨fun h=>(by cases h),fun h=>?_⟩;rw[List.any_eq_true]at h2;obtain⟨x,hx,he⟩:=h2;exact absurd (of_decide_eq_true he) (h.fresh x hx)
  | false=>
   simp only[Bool.false_eq_true,if_false];have hfr:∀ x∈pre,x.name≠b.name:=fun x hx he=>by
    rw[List.any_eq_false]at h2;exact h2 x hx (decide_eq_true he)
   cases h3:qcp b.off.lo (-720) 720||qcp b.off.hi (-720) 720||qcp b.set.lo (-720) 720||qcp b.set.hi (-720) 720 with
   | true=>
    simp only[if_true];refine⟨fun h=>(by cases h),fun h=>?_⟩;have ho:=h.off;have hs:=h.set;rw[zS.2 (by omega),zS.2 (by omega),zS.2 (by omega),zS.2 (by omega)]at h3
    cases h3
   | false=>
    simp only[Bool.or_eq_false_iff,zS]at h3;simp only[Bool.false_eq_true,if_false]
    cases h4:decide (b.off.lo>b.off.hi)||decide (b.set.lo>b.set.hi) with
    | true=>
     simp only[if_true];refine⟨fun h=>(by cases h),fun h=>?_⟩;have ho:=h.off;have hs:=h.set;rw[decide_eq_false (by omega),decide_eq_false (by omega)]at h4
     cases h4
    | false=>
     simp only[Bool.or_eq_false_iff,decide_eq_false_iff_not]at h4;simp only[Bool.false_eq_true,if_false]
     split
     ·rename_i h5
      exact⟨fun h=>(by cases h),fun h=>by have:=h.ents;omega⟩
     ·exact⟨fun _=>⟨h1,hfr,by omega,by omega,by omega⟩,fun _=>rfl⟩
theorem zT{l:PLog}(h:qK l=0):LogR l:=by
 obtain⟨h1,h2,h3⟩:=qfn.1 h;refine⟨h1,h2,fun b hb=>?_⟩;obtain⟨k,hk⟩:=List.getElem?_of_mem hb;obtain⟨h4,h5⟩:=h3 k b hk;have h4:=qhI.1 h4;exact⟨h4.off,h4.set,h4.ents,fun x hx=>by have:=qnh.1 (h5 x hx);exact⟨this.shown,this.kind,this.number⟩⟩
theorem qiM{l:PLog}(hR:LogR l){w:Int}(hw:0<=w/\w<=1048576)(conf:List Int):LookR (qY l w conf):=by
 refine⟨look_len hR w conf,fun e he=>qpT hR hw (qna e he),?_⟩;have h:=qjD (N:=qV l) (l:=l) (wider:=w) (conf:=conf) (by simp[qV]) l.books (i:=0) (done:=[]) (s:=⟨[],0,[],[]⟩) ⟨fun e he=>(by cases he),fun x hx=>(by cases hx),rfl,fun p hp=>(by cases hp)⟩ (fun p hp=>List.mem_cons_of_mem _ hp);have hm:(qY l w conf).many=((qaQ 0 l.books).length:Nat):=by have:=h.many;rwa [List.nil_append]at this
 rw[hm,qfQ];have key:∀ bs:List PBook,(∀ b∈bs,BookR b)->zI bs<=9*bs.length:=by
  intro bs
  induction bs with
  | nil=>intro _;exact Nat.le_refl _
  | cons b r ih=>
   intro h;have:=ih fun c hc=>h c (List.mem_cons_of_mem _ hc);have h2:=qaL b;have h3:=(h b (List.mem_cons_self ..)).ents;rw[qbF,List.length_cons];omega
 have:=key l.books hR.book;have:=hR.books;omega
theorem qaZ{l:PLog}{x:PAt}:qke l x=true ↔ ∃ (i k:Nat) (b:PBook) (y:PEnt),x=⟨i,k⟩/\At l i k b y:=by
 unfold qke;rw[Bool.and_eq_true,Bool.not_eq_true',Bool.not_eq_true',zS,zS];constructor
 ·rintro ⟨⟨h1,h2⟩,h3,h4⟩
  obtain⟨b,hb⟩:∃ b,l.books[x.book.toNat]?=some b:=⟨_,List.getElem?_eq_getElem (by omega)⟩;have hba:qcD l x.book=b:=by unfold qcD;rw[hb];rfl
  rw[hba]at h4;obtain⟨y,hy⟩:∃ y,b.ents[x.entry.toNat]?=some y:=⟨_,List.getElem?_eq_getElem (by omega)⟩;refine⟨x.book.toNat,x.entry.toNat,b,y,?_,hb,hy⟩
  cases x
  simp only[PAt.mk.injEq];simp only at h1 h3;omega
 ·rintro ⟨i,k,b,y,rfl,h⟩
  have h1:=(List.getElem?_eq_some_iff.1 h.book).1;have h2:=(List.getElem?_eq_some_iff.1 h.ent).1;have hba:qcD l ((⟨i,k⟩:PAt).book)=b:=by unfold qcD;simp only[Int.toNat_natCast,h.book,Option.getD_some]
  rw[hba];simp only;omega
theorem qdg{l:PLog}{i k:Nat}{b:PBook}{y:PEnt}(h:At l i k b y):qnR l ⟨i,k⟩=⟨i,qJ b k⟩:=
 qaK h ((qfj l 0 []).pers.2 i b h.book (qoH h))
theorem qni{l:PLog}{i n:Nat}{b:PBook}(h:l.books[i]?=some b)(hn:n<=zm b.ents):(⟨i,n⟩:Per)∈qV l:=List.mem_of_getElem? (jC h hn)
theorem qhJ{l:PLog}{x:PAt}(h0:qke l x=true):qnR l x∈qV l:=by
 obtain⟨i,k,b,y,rfl,h⟩:=qaZ.1 h0;rw[qdg h];exact qni h.book (zE b k)
theorem qiN(l:PLog):Per.right∈qV l:=List.mem_cons_self ..
theorem qjI{l:PLog}{w:Int}{conf:List Int}(hf:qcn l w conf=true){p:Per}(hp:p∈qV l):qmV (qY l w conf) (qcK (qY l w conf) p)=true:=by
 have hs:=qfi l w conf;exact(hs.fit hp).2 ((hs.fit hs.right).1 hf)
end Go.PX
