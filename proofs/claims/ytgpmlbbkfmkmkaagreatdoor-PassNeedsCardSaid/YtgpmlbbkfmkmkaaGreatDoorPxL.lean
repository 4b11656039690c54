import Derived.Test.YtgpmlbbkfmkmkaaGreatDoorPxK
set_option linter.all false
set_option maxRecDepth 10000
namespace Go.PX
open Go.Proofs
theorem Ahead.succ{i k j m:Nat}(h:Ahead i k j m):Ahead i (k+1) j m:=h.imp id fun⟨a,b⟩=>⟨a,by omega⟩
theorem qbL{i k j m:Nat}(h:Ahead i (k+1) j m):Ahead i k j m\/(j=i/\m=k):=by
 unfold Ahead at *;omega
structure StOk(l:PLog)(wider:Int)(conf:List Int)(i k:Nat)(b:PBook)(s:LkE)(st:List zu):Prop where
 keep:∀ e∈s.steps,e∈st
 sub:∀ e∈st,Just l wider conf e
 ord:∀ (j m:Nat) c x y,At l j m c x->At l j (m+1) c y->Ahead i (k+1) j (m+1)->qcx j j c c m (m+1) x y∈st
theorem qvD{l:PLog}{wider:Int}{conf:List Int}{i k:Nat}{b:PBook}{pers:List (List Per)}{s:LkE}{y:PEnt}(hb:l.books[i]?=some b)(hy:b.ents[k]?=some y)(h:EInv l wider conf i k b pers s) :
  StOk l wider conf i k b s (if k=0 then s.steps else s.steps ++ [⟨((s.of ++ [s.now])[k-1]?).getD .right,s.now,y.shown-((b.ents[k-1]?).getD ⟨0,0,.empty,0⟩).shown⟩]):=by
 cases k with
 | zero=>
  rw[if_pos rfl];refine⟨fun e he=>he,h.sub,fun j m c x z hx hz ha=>h.ord j m c x z hx hz ?_⟩;rcases qbL ha with ha|⟨_,ha⟩
  ·exact ha
  ·omega
 | succ k=>
  rw[if_neg (by omega),Nat.add_sub_cancel];have hkl:=(List.getElem?_eq_some_iff.1 hy).1;obtain⟨x,hx⟩:∃ x,b.ents[k]?=some x:=⟨_,List.getElem?_eq_getElem (by omega)⟩;have hof:((s.of ++ [s.now])[k]?).getD .right=⟨i,qL b k⟩:=by
   rw[h.of,List.getElem?_append_left (by simp),List.getElem?_map,List.getElem?_range (by omega)];rfl
  have e:(⟨((s.of ++ [s.now])[k]?).getD .right,s.now,y.shown-((b.ents[k]?).getD ⟨0,0,.empty,0⟩).shown⟩:zu)=qcx i i b b k (k+1) x y:=by
   rw[hof,h.now,hx];rfl
  rw[e];refine⟨fun e he=>List.mem_append_left _ he,fun e he=>?_,fun j m c x' z hx' hz ha=>?_⟩
  ·rcases List.mem_append.1 he with he|he
   ·exact h.sub e he
   ·rw[List.mem_singleton]at he
    rw[he];exact .ord i k b x y ⟨hb,hx⟩ ⟨hb,hy⟩
  ·rcases qbL ha with ha|⟨h1,h2⟩
   ·exact List.mem_append_left _ (h.ord j m c x' z hx' hz ha)
   ·subst h1
    have hm:m=k:=by omega
    subst hm;have hcb:c=b:=Option.some.inj (hx'.book.symm.trans hb);subst hcb;rw[Option.some.inj (hx'.ent.symm.trans hx),Option.some.inj (hz.ent.symm.trans hy)];exact List.mem_append_right _ (List.mem_singleton.2 rfl)
theorem qvE{i k:Nat}{b:PBook}{s:LkE}(ho:s.of=(List.range k).map fun(m:Nat)=>(⟨i,qL b m⟩:Per))(hn:s.now=⟨i,qL b k⟩):s.of ++ [s.now]=(List.range (k+1)).map fun(m:Nat)=>(⟨i,qL b m⟩:Per):=by
 rw[List.range_succ,List.map_append,ho,hn];rfl
theorem qcL{b:PBook}{k:Nat}{y:PEnt}(hy:b.ents[k]?=some y){num:Int}(h:zJ b.ents num 0=some k):y.kind=3/\y.number=num:=by
 obtain⟨z,_,hz,h1,h2,_⟩:=zQ h;rw[Nat.sub_zero,hy]at hz;cases hz;exact⟨h1,h2⟩
theorem qnw{l:PLog}{wider:Int}{conf:List Int}{i k:Nat}{b:PBook}{pers:List (List Per)}{s:LkE}{y:PEnt}(hp:∀ (j:Nat) c,l.books[j]?=some c->j<i->pers[j]?=some (jP j c))(hb:l.books[i]?=some b)(hy:b.ents[k]?=some y)(h:EInv l wider conf i k b pers s) :
  EInv l wider conf i (k+1) b pers (qqC l wider conf i b pers k y s):=by
 have hs:=qvD hb hy h;have hof:=qvE h.of h.now;have hps:=qpT hy;generalize hst:(if k=0 then s.steps else s.steps ++ [(⟨((s.of ++ [s.now])[k-1]?).getD .right,s.now,y.shown-((b.ents[k-1]?).getD ⟨0,0,.empty,0⟩).shown⟩:zu)])=st at hs;unfold qqC;simp only[hst];have nomine:y.kind≠3 -> ∀ num,(0<=(zr s.mine num).getD 0)/\(1<=(zr s.mine num).getD 0 ↔ ∃ m,m<k+1/\zJ b.ents num 0=some m):=fun h3 num=>by
  obtain⟨h1,h2⟩:=h.mine num;refine⟨h1,h2.trans ⟨fun⟨m,hm,he⟩=>⟨m,by omega,he⟩,fun⟨m,hm,he⟩=>⟨m,?_,he⟩⟩⟩;rcases Nat.lt_or_ge m k with hlt|hge
  ·exact hlt
  ·have:m=k:=by omega
   subst this;exact absurd (qcL hy he).1 h3
 have nogot:y.kind≠3 -> ∀ (st':List zu),(∀ e∈st,e∈st') -> ∀ (j m:Nat) (c:PBook) (z:PEnt) num,At l j m c z->zJ c.ents num 0=some m->num∉conf->Ahead i (k+1) j m -> ∃ r,zr s.first num=some r/\(r=⟨j,m⟩\/Both l st' r j m c z):=fun h3 st' hst j m c z num hz hf hc ha=>by
  rcases qbL ha with ha|⟨rfl,rfl⟩
  ·obtain⟨r,h1,h2⟩:=h.got j m c z num hz hf hc ha
   exact⟨r,h1,h2.imp id (Both.mono fun e he=>hst e (hs.keep e he))⟩
  ·have hcb:c=b:=Option.some.inj (hz.book.symm.trans hb)
   subst hcb;exact absurd (qcL hy hf).1 h3
 have fstk:∀ num r,zr s.first num=some r -> ∃ (j m:Nat) (c:PBook) (x:PEnt),r=⟨j,m⟩/\At l j m c x/\zJ c.ents num 0=some m/\num∉conf/\Ahead i (k+1) j m:=fun num r hr=>by
  obtain⟨j,m,c,x,h1,h2,h3,h4,h5⟩:=h.fst num r hr;exact⟨j,m,c,x,h1,h2,h3,h4,h5.succ⟩
 by_cases h2:y.kind=2
 ·rw[if_pos h2]
  rw[if_pos h2]at hps;have h3:y.kind≠3:=by omega
  have hnw:(⟨s.now.book,s.now.n+1⟩:Per)=⟨i,(qL b (k+1):Nat)⟩:=by rw[h.now,hps];simp
  refine⟨hnw,hof,nomine h3,fstk,nogot h3 _ fun e he=>List.mem_append_left _ he,fun e he=>?_,fun j c hc hj e he=>List.mem_append_left _ (hs.keep e (h.off j c hc hj e he)),fun j c n hc hn hjn e he=>?_,fun j m c x z hx hz ha=>List.mem_append_left _ (hs.ord j m c x z hx hz ha)⟩
  ·rcases List.mem_append.1 he with he|he
   ·exact hs.sub e he
   ·rw[hnw]at he
    exact .set i b hb (qL b (k+1)) (by omega) (jf b _) e he
  ·rcases hjn with hjn|⟨rfl,hjn⟩
   ·exact List.mem_append_left _ (hs.keep e (h.set j c n hc hn (.inl hjn) e he))
   ·rcases Nat.lt_or_ge (qL b k) n with hlt|hge
    ·have:n=qL b (k+1):=by omega
     subst this;have hcb:c=b:=Option.some.inj (hc.symm.trans hb);subst hcb;rw[hnw];exact List.mem_append_right _ he
    ·exact List.mem_append_left _ (hs.keep e (h.set j c n hc hn (.inr ⟨rfl,hge⟩) e he))
 ·rw[if_neg h2]
  rw[if_neg h2,Nat.add_zero]at hps;have hnow:s.now=⟨i,qL b (k+1)⟩:=by rw[hps];exact h.now
  have setk:∀ (st':List zu),(∀ e∈st,e∈st') -> ∀ (j:Nat) c n,l.books[j]?=some c->1<=n->(j<i/\n<=zn c.ents\/j=i/\n<=qL b (k+1)) -> ∀ e∈jh wider ⟨j,(n:Nat)⟩ c.set,e∈st':=fun st' hst j c n hc hn hjn e he=>by
   rw[hps]at hjn;exact hst e (hs.keep e (h.set j c n hc hn hjn e he))
  have offk:∀ (st':List zu),(∀ e∈st,e∈st') -> ∀ (j:Nat) c,l.books[j]?=some c->j<=i -> ∀ e∈jh wider ⟨j,0⟩ c.off,e∈st':=fun st' hst j c hc hj e he=>hst e (hs.keep e (h.off j c hc hj e he));by_cases h3:y.kind=3
  ·rw[if_pos h3]
   obtain⟨hm0,hm1⟩:=h.mine y.number;obtain⟨m0,hm0k,hm0f⟩:=qin hy h3 rfl;have minek:∀ num,(0<=(zr (jJ s.mine y.number ((zr s.mine y.number).getD 0+1)) num).getD 0)/\(1<=(zr (jJ s.mine y.number ((zr s.mine y.number).getD 0+1)) num).getD 0 ↔ ∃ m,m<k+1/\zJ b.ents num 0=some m):=fun num=>by
    rw[zA];by_cases hn:num=y.number
    ·rw[if_pos hn,Option.getD_some]
     subst hn;exact⟨by omega,fun _=>⟨m0,by omega,hm0f⟩,fun _=>by omega⟩
    ·rw[if_neg hn]
     obtain⟨h4,h5⟩:=h.mine num;refine⟨h4,h5.trans ⟨fun⟨m,hm,he⟩=>⟨m,by omega,he⟩,fun⟨m,hm,he⟩=>⟨m,?_,he⟩⟩⟩;rcases Nat.lt_or_ge m k with hlt|hge
     ·exact hlt
     ·have:m=k:=by omega
      subst this;exact absurd (qcL hy he).2.symm hn
   by_cases hc:(zr s.mine y.number).getD 0+1>1\/y.number∈conf
   ·rw[if_pos hc]
    refine⟨hnow,hof,minek,fstk,fun j m c z num hz hf hcn ha=>?_,hs.sub,offk _ fun e he=>he,setk _ fun e he=>he,hs.ord⟩;rcases qbL ha with ha|⟨rfl,rfl⟩
    ·obtain⟨r,h5,h6⟩:=h.got j m c z num hz hf hcn ha
     exact⟨r,h5,h6.imp id (Both.mono hs.keep)⟩
    ·have hcb:c=b:=Option.some.inj (hz.book.symm.trans hb)
     subst hcb;have hnum:=(qcL hy hf).2;subst hnum;rcases hc with hc|hc
     ·obtain⟨m',h5,h6⟩:=hm1.1 (by omega)
      rw[hf]at h6;have:=Option.some.inj h6;omega
     ·exact absurd hc hcn
   ·rw[if_neg hc]
    have hc1:¬ 1<=(zr s.mine y.number).getD 0:=fun h=>hc (.inl (by omega));have hc2:y.number∉conf:=fun h=>hc (.inr h);have hfk:zJ b.ents y.number 0=some k:=by
     rcases Nat.lt_or_ge m0 k with hlt|hge
     ·exact absurd (hm1.2 ⟨m0,hlt,hm0f⟩) hc1
     ·rw[hm0f];congr 1;omega
    cases hfr:zr s.first y.number with
    | none=>
     simp only;refine⟨hnow,hof,minek,fun num r hr=>?_,fun j m c z num hz hf hcn ha=>?_,hs.sub,offk _ fun e he=>he,setk _ fun e he=>he,hs.ord⟩
     ·simp only at hr
      rw[zA]at hr;split at hr
      ·rename_i hn
       cases hr;subst hn;exact⟨i,k,b,y,rfl,⟨hb,hy⟩,hfk,hc2,.inr ⟨rfl,Nat.lt_succ_self k⟩⟩
      ·exact fstk num r hr
     ·simp only
      rw[zA];rcases qbL ha with ha|⟨rfl,rfl⟩
      ·obtain⟨r,h5,h6⟩:=h.got j m c z num hz hf hcn ha
       have hn:num≠y.number:=by rintro rfl;rw[hfr]at h5;cases h5
       rw[if_neg hn];exact⟨r,h5,h6.imp id (Both.mono hs.keep)⟩
      ·have hcb:c=b:=Option.some.inj (hz.book.symm.trans hb)
       subst hcb;rw[if_pos (qcL hy hf).2.symm];exact⟨_,rfl,.inl rfl⟩
    | some r0=>
     simp only;obtain⟨j0,n0,c0,x0,rfl,hx0,hf0,_,ha0⟩:=h.fst y.number r0 hfr;have hj0:j0<i:=by
      rcases ha0 with ha0|⟨rfl,ha0⟩
      ·exact ha0
      ·have hcb:c0=b:=Option.some.inj (hx0.book.symm.trans hb)
       subst hcb;rw[hfk]at hf0;have:=Option.some.inj hf0;omega
     have e1:(⟨qmc pers ⟨j0,n0⟩,s.now,y.shown-(qgk l ⟨j0,n0⟩).shown⟩:zu)=qcx j0 i c0 b n0 k x0 y:=by
      rw[qaP hx0 (hp j0 c0 hx0.book hj0),jE hx0,h.now];rfl
     have e2:(⟨s.now,qmc pers ⟨j0,n0⟩,-(y.shown-(qgk l ⟨j0,n0⟩).shown)⟩:zu)=qcx i j0 b c0 k n0 y x0:=by
      rw[qaP hx0 (hp j0 c0 hx0.book hj0),jE hx0,h.now,Int.neg_sub];rfl
     rw[e1,e2];refine⟨hnow,hof,minek,fstk,fun j m c z num hz hf hcn ha=>?_,fun e he=>?_,offk _ fun e he=>List.mem_append_left _ he,setk _ fun e he=>List.mem_append_left _ he,fun j m c x z hx hz ha=>List.mem_append_left _ (hs.ord j m c x z hx hz ha)⟩
     ·rcases qbL ha with ha|⟨rfl,rfl⟩
      ·obtain⟨r,h5,h6⟩:=h.got j m c z num hz hf hcn ha
       exact⟨r,h5,h6.imp id (Both.mono fun e he=>List.mem_append_left _ (hs.keep e he))⟩
      ·have hcb:c=b:=Option.some.inj (hz.book.symm.trans hb)
       subst hcb;have hnum:=(qcL hy hf).2;subst hnum;have hzy:z=y:=Option.some.inj (hz.ent.symm.trans hy);subst hzy;exact⟨_,hfr,.inr ⟨j0,n0,c0,x0,rfl,hx0,by simp,by simp⟩⟩
     ·rcases List.mem_append.1 he with he|he
      ·exact hs.sub e he
      ·simp only[List.mem_cons,List.not_mem_nil,or_false]at he
       rcases he with rfl|rfl
       ·exact .rep j0 i n0 k c0 b x0 y y.number ⟨hx0,⟨hb,hy⟩,hf0,hfk,hc2⟩
       ·exact .rep i j0 k n0 b c0 y x0 y.number ⟨⟨hb,hy⟩,hx0,hfk,hf0,hc2⟩
  ·rw[if_neg h3]
   exact⟨hnow,hof,nomine h3,fstk,nogot h3 _ fun e he=>he,hs.sub,offk _ fun e he=>he,setk _ fun e he=>he,hs.ord⟩
theorem qoO{l:PLog}{wider:Int}{conf:List Int}{i:Nat}{b:PBook}{pers:List (List Per)}(hp:∀ (j:Nat) c,l.books[j]?=some c->j<i->pers[j]?=some (jP j c))(hb:l.books[i]?=some b):∀ (r:List PEnt) {k:Nat} {s:LkE},(∀ j,r[j]?=b.ents[k+j]?)->EInv l wider conf i k b pers s->EInv l wider conf i (k+r.length) b pers (qeT l wider conf i b pers k r s)
 | [],k,s,_,h=>h
 | y::r,k,s,he,h=>by
  rw[qeT,List.length_cons,show k+(r.length+1)=k+1+r.length by omega];refine qoO hp hb r (fun j=>?_) (qnw hp hb (by have:=he 0;rw[List.getElem?_cons_zero]at this;exact this.symm) h);have:=he (j+1);rw[List.getElem?_cons_succ]at this;rw[this];congr 1;omega
theorem qjA(b:PBook):qL b 0=0:=rfl
theorem qkE{l:PLog}{wider:Int}{conf:List Int}{i:Nat}{b:PBook}{s:LkS}(hb:l.books[i]?=some b)(h:LInv l wider conf i s):LInv l wider conf (i+1) (qik l wider conf i b s):=by
 have h0:EInv l wider conf i 0 b s.pers ⟨s.steps++jh wider ⟨i,0⟩ b.off,s.many+1,s.first,⟨i,0⟩,[],[]⟩:=by
  refine⟨rfl,rfl,fun num=>⟨Int.le_refl 0,fun h=>absurd h (by show ¬ ((1:Int)<=0);decide),fun⟨m,hm,_⟩=>absurd hm (Nat.not_lt_zero m)⟩,fun num r hr=>?_,fun j m c y num hy hf hc ha=>?_,fun e he=>?_,fun j c hc hj e he=>?_,fun j c n hc hn hjn e he=>?_,fun j m c x z hx hz ha=>?_⟩
  ·obtain⟨j,m,c,x,h1,h2,h3,h4,h5⟩:=h.fst num r hr
   exact⟨j,m,c,x,h1,h2,h3,h4,.inl h5⟩
  ·rcases ha with ha|⟨_,ha⟩
   ·obtain⟨r,h1,h2⟩:=h.got j m c y num hy hf hc ha
    exact⟨r,h1,h2.imp id (Both.mono fun e he=>List.mem_append_left _ he)⟩
   ·exact absurd ha (Nat.not_lt_zero m)
  ·rcases List.mem_append.1 he with he|he
   ·exact h.sub e he
   ·exact .off i b hb e he
  ·rcases Nat.lt_or_ge j i with hlt|hge
   ·exact List.mem_append_left _ (h.off j c hc hlt e he)
   ·have:j=i:=by omega
    subst this;have hcb:c=b:=Option.some.inj (hc.symm.trans hb);subst hcb;exact List.mem_append_right _ he
  ·rcases hjn with⟨hj,hn2⟩|⟨_,hn2⟩
   ·exact List.mem_append_left _ (h.set j c n hc hn hj hn2 e he)
   ·rw[qjA]at hn2;omega
  ·rcases ha with ha|⟨_,ha⟩
   ·exact List.mem_append_left _ (h.ord j m c x z hx hz ha)
   ·omega
 have h1:=qoO h.pers.2 hb b.ents (fun j=>by rw[Nat.zero_add]) h0;rw[Nat.zero_add]at h1;unfold qik;have ah:∀ (j m:Nat) (c:PBook) (y:PEnt),At l j m c y->j<i+1->Ahead i b.ents.length j m:=fun j m c y hy hj=>by
  rcases Nat.lt_or_ge j i with hlt|hge
  ·exact .inl hlt
  ·have:j=i:=by omega
   subst this;have hcb:c=b:=Option.some.inj (hy.book.symm.trans hb);subst hcb;exact .inr ⟨rfl,(List.getElem?_eq_some_iff.1 hy.ent).1⟩
 refine⟨⟨by simp only[List.length_append,List.length_singleton];rw[h.pers.1],fun j c hc hj=>?_⟩,fun num r hr=>?_,fun j m c y num hy hf hc hj=>h1.got j m c y num hy hf hc (ah j m c y hy hj),h1.sub,fun j c hc hj e he=>h1.off j c hc (by omega) e he,fun j c n hc hn hj hn2 e he=>?_,fun j m c x z hx hz hj=>h1.ord j m c x z hx hz (ah j (m+1) c z hz hj)⟩
 ·simp only
  rcases Nat.lt_or_ge j i with hlt|hge
  ·rw[List.getElem?_append_left (by rw[h.pers.1];exact hlt)]
   exact h.pers.2 j c hc hlt
  ·have:j=i:=by omega
   subst this;have hcb:c=b:=Option.some.inj (hc.symm.trans hb);subst hcb;rw[List.getElem?_append_right (by rw[h.pers.1];exact Nat.le_refl _),h.pers.1,Nat.sub_self,h1.of];rfl
 ·obtain⟨j,m,c,x,h2,h3,h4,h5,h6⟩:=h1.fst num r hr
  refine⟨j,m,c,x,h2,h3,h4,h5,?_⟩;rcases h6 with h6|⟨h6,_⟩<;>omega
 ·refine h1.set j c n hc hn ?_ e he
  rcases Nat.lt_or_ge j i with hlt|hge
  ·exact .inl ⟨hlt,hn2⟩
  ·have:j=i:=by omega
   subst this;have hcb:c=b:=Option.some.inj (hc.symm.trans hb);subst hcb;exact .inr ⟨rfl,by rw[qrP];exact hn2⟩
theorem qoP{l:PLog}{wider:Int}{conf:List Int}:∀ (bs:List PBook) {i:Nat} {s:LkS},(∀ j,bs[j]?=l.books[i+j]?)->LInv l wider conf i s->LInv l wider conf (i+bs.length) (qeU l wider conf i bs s)
 | [],i,s,_,h=>h
 | b::r,i,s,he,h=>by
  rw[qeU,List.length_cons,show i+(r.length+1)=i+1+r.length by omega];refine qoP r (fun j=>?_) (qkE (by have:=he 0;rw[List.getElem?_cons_zero]at this;exact this.symm) h);have:=he (j+1);rw[List.getElem?_cons_succ]at this;rw[this];congr 1;omega
theorem qfB(l:PLog)(wider:Int)(conf:List Int):LInv l wider conf l.books.length (qX l wider conf):=by
 have:=qoP (l:=l) (wider:=wider) (conf:=conf) l.books (i:=0) (s:=⟨[],0,[],[]⟩) (fun j=>by rw[Nat.zero_add]) ⟨⟨rfl,fun j c _ hj=>absurd hj (Nat.not_lt_zero j)⟩,fun num r hr=>(by cases hr),fun j m c y num _ _ _ hj=>absurd hj (Nat.not_lt_zero j),fun e he=>(by cases he),fun j c _ hj=>absurd hj (Nat.not_lt_zero j),fun j c n _ _ hj=>absurd hj (Nat.not_lt_zero j),fun j m c x z _ _ hj=>absurd hj (Nat.not_lt_zero j)⟩;rw[Nat.zero_add]at this;exact this
theorem qrQ{l:PLog}{j m:Nat}{c:PBook}{x:PEnt}(h:At l j m c x):j<l.books.length:=(List.getElem?_eq_some_iff.1 h.book).1
theorem qoQ{l:PLog}{wider:Int}{conf:List Int}:∀ e∈(qX l wider conf).steps,Just l wider conf e:=(qfB l wider conf).sub
theorem qrR{l:PLog}{wider:Int}{conf:List Int}{e:zu}(h:Just l wider conf e):∃ n,PG.Walk (qX l wider conf).steps e.a e.b n e.w:=by
 have hd:=qfB l wider conf
 cases h with
 | off i b hb e he=>exact⟨1,.one (hd.off i b hb (List.getElem?_eq_some_iff.1 hb).1 _ he)⟩
 | set i b hb n h1 h2 e he=>exact⟨1,.one (hd.set i b n hb h1 (List.getElem?_eq_some_iff.1 hb).1 h2 _ he)⟩
 | ord i k b x y hx hy=>exact⟨1,.one (hd.ord i k b x y hx hy (qrQ hx))⟩
 | rep i j m n b c x y num h=>
  obtain⟨r,h1,h2⟩:=hd.got i m b x num h.ha h.fa h.no (qrQ h.ha);obtain⟨r',h1',h3⟩:=hd.got j n c y num h.hb h.fb h.no (qrQ h.hb);rw[h1]at h1';have:r=r':=Option.some.inj h1';subst this;rcases h2 with h2|⟨i1,m1,b1,x1,e1,hx1,s1,s1'⟩
  ·rcases h3 with h3|⟨i2,m2,b2,x2,e2,hx2,s2,s2'⟩
   ·
    rw[h2]at h3;have hij:i=j:=by injection h3;omega
    have hmn:m=n:=by injection h3;omega
    subst hij;subst hmn;have hbc:b=c:=Option.some.inj (h.ha.book.symm.trans h.hb.book);subst hbc;have hxy:x=y:=Option.some.inj (h.ha.ent.symm.trans h.hb.ent);subst hxy;refine⟨0,?_⟩;show PG.Walk _ _ _ 0 (x.shown-x.shown);rw[Int.sub_self];exact .nil _
   ·rw[h2]at e2
    have hij:i=i2:=by injection e2;omega
    have hmn:m=m2:=by injection e2;omega
    subst hij;subst hmn;have hbc:b=b2:=Option.some.inj (h.ha.book.symm.trans hx2.book);subst hbc;have hxy:x=x2:=Option.some.inj (h.ha.ent.symm.trans hx2.ent);subst hxy;exact⟨1,.one s2⟩
  ·rcases h3 with h3|⟨i2,m2,b2,x2,e2,hx2,s2,s2'⟩
   ·rw[h3]at e1
    have hij:j=i1:=by injection e1;omega
    have hmn:n=m1:=by injection e1;omega
    subst hij;subst hmn;have hbc:c=b1:=Option.some.inj (h.hb.book.symm.trans hx1.book);subst hbc;have hxy:y=x1:=Option.some.inj (h.hb.ent.symm.trans hx1.ent);subst hxy;exact⟨1,.one s1'⟩
   ·rw[e1]at e2
    have hij:i1=i2:=by injection e2;omega
    have hmn:m1=m2:=by injection e2;omega
    subst hij;subst hmn;have hbc:b1=b2:=Option.some.inj (hx1.book.symm.trans hx2.book);subst hbc;have hxy:x1=x2:=Option.some.inj (hx1.ent.symm.trans hx2.ent);subst hxy;refine⟨1+1,?_⟩;have hw:=(PG.Walk.one s1').trans (PG.Walk.one s2);have e:(qcx i i1 b b1 m m1 x x1).w+(qcx i1 j b1 c m1 n x1 y).w=(qcx i j b c m n x y).w:=by
     show(x1.shown-x.shown)+(y.shown-x1.shown)=y.shown-x.shown;omega
    rw[e]at hw;exact hw
structure Truth(l:PLog)(wider:Int)(conf:List Int)(t:Per->Int):Prop where
 right:t .right=0
 ok:∀ e,Just l wider conf e->t e.b<=t e.a+e.w
theorem qfC{l:PLog}{wider:Int}{conf:List Int}{t:Per->Int}(h0:t .right=0):Truth l wider conf t↔PG.Pot (qX l wider conf).steps t:=by
 constructor
 ·exact fun h e he=>h.ok e (qoQ e he)
 ·intro h
  refine⟨h0,fun e he=>?_⟩;obtain⟨n,hw⟩:=qrR he;exact hw.pot h
def jW(l:PLog)(wider:Int)(conf:List Int):Bool:=qoL (qX l wider conf) (qcY (qX l wider conf) .right)
theorem qrS{es:List zu}{t:Per->Int}(h:PG.Pot es t)(d:Int):PG.Pot es fun p=>t p-d:=fun e he=>by
 have:=h e he;show t e.b-d<=t e.a-d+e.w;omega
theorem qtL(l:PLog)(wider:Int)(conf:List Int):jW l wider conf=true ↔ ∃ t,Truth l wider conf t:=by
 have hs:=qfA l wider conf;unfold jW;rw[hs.fit hs.right];constructor
 ·intro hno
  have hd:=hs.dist hno hs.right;have hp:=hd.pot fun e he=>hs.known hs.right (hs.ends e he).1;exact⟨_,(qfC (t:=fun v=>(zr (qcY (qX l wider conf) .right) v).getD 0) (by have h0:zr (qcY (qX l wider conf) .right) .right=some 0:=hd.root0;show(zr (qcY (qX l wider conf) .right) .right).getD 0=0;rw[h0];rfl)).2 hp⟩
 ·rintro ⟨t,ht⟩
  exact PG.pot_noNeg ((qfC ht.right).1 ht)
def zO(x:LkS)(p q:Per):Span:=⟨-(atM (qcY x p) q),atM (qcY x q) p⟩
theorem qtM{l:PLog}{wider:Int}{conf:List Int}(hf:jW l wider conf=true){t:Per->Int}(ht:Truth l wider conf t){p q:Per}(hp:p∈qY l)(hq:q∈qY l) :
  (zO (qX l wider conf) p q).lo<=t p-t q/\t p-t q<=(zO (qX l wider conf) p q).hi:=by
 have hs:=qfA l wider conf;have hpot:=(qfC ht.right).1 ht;have hno:=PG.pot_noNeg hpot;obtain⟨v,hv⟩:=hs.known hp hq;obtain⟨u,hu⟩:=hs.known hq hp;have h1:=(hs.dist hno hp).most hpot hv;have h2:=(hs.dist hno hq).most hpot hu;unfold zO atM;simp only[hv,hu,Option.getD_some];omega
theorem qnx{l:PLog}{wider:Int}{conf:List Int}(hf:jW l wider conf=true){p q:Per}(hp:p∈qY l)(hq:q∈qY l) :
  (∃ t,Truth l wider conf t/\t p-t q=(zO (qX l wider conf) p q).hi) /\ ∃ t,Truth l wider conf t/\t p-t q=(zO (qX l wider conf) p q).lo:=by
 have hs:=qfA l wider conf;have hno:PG.NoNeg (qX l wider conf).steps:=(hs.fit hs.right).1 hf;have key:∀ {a b:Per},a∈qY l->b∈qY l -> ∃ t,Truth l wider conf t/\t b-t a=atM (qcY (qX l wider conf) a) b:=fun {a b} ha hb=>by
  have hd:=hs.dist hno ha;have hpot:=hd.pot fun e he=>hs.known ha (hs.ends e he).1;have h0:=hd.root0;refine⟨fun v=>(zr (qcY (qX l wider conf) a) v).getD 0-(zr (qcY (qX l wider conf) a) .right).getD 0,(qfC (by show(zr (qcY (qX l wider conf) a) .right).getD 0-(zr (qcY (qX l wider conf) a) .right).getD 0=0;omega)).2 (qrS hpot _),?_⟩;simp only at h0 ⊢;rw[h0];unfold atM;simp only[Option.getD_some];omega
 obtain⟨t,ht,he⟩:=key hq hp;obtain⟨u,hu,he'⟩:=key hp hq;exact⟨⟨t,ht,he⟩,u,hu,by show _ = -(atM _ _);rw[<- he'];omega⟩
def zF(bs:List PBook):Nat:=(bs.map fun b=>zn b.ents+1).sum
def jx(l:PLog)(i n:Nat):Nat:=1+n+zF (l.books.take i)
theorem qbM(b:PBook)(r:List PBook):zF (b::r)=zn b.ents+1+zF r:=by
 unfold zF;rw[List.map_cons,List.sum_cons]
theorem qbZ(i:Nat)(b:PBook):(qkC i b).length=zn b.ents+1:=by
 unfold qkC;rw[List.length_map,List.length_range]
theorem qgm:∀ (bs:List PBook) (i:Nat),(qaU i bs).length=zF bs
 | [],_=>rfl
 | b::r,i=>by
  rw[qaU,List.length_append,qbZ,qgm r,qbM]
theorem qmh:∀ {bs:List PBook} {i0 i:Nat} {b:PBook} {n:Nat},bs[i]?=some b->n<=zn b.ents->(qaU i0 bs)[n+zF (bs.take i)]?=some ⟨(i0+i:Nat),n⟩
 | [],_,i,b,n,h,_=>by simp at h
 | c::r,i0,0,b,n,h,hn=>by
  rw[List.getElem?_cons_zero]at h;cases h;rw[qaU,List.take_zero];show(qkC i0 c++qaU (i0+1) r)[n+0]?=_;rw[Nat.add_zero,List.getElem?_append_left (by rw[qbZ];omega)];unfold qkC;rw[List.getElem?_map,List.getElem?_range (by omega)];rfl
 | c::r,i0,i+1,b,n,h,hn=>by
  rw[List.getElem?_cons_succ]at h;rw[qaU,List.take_succ_cons,qbM,List.getElem?_append_right (by rw[qbZ];omega),qbZ,show n+(zn c.ents+1+zF (r.take i))-(zn c.ents+1)=n+zF (r.take i) by omega,qmh (i0:=i0+1) h hn,show i0+1+i=i0+(i+1) by omega]
theorem qmi:∀ {bs:List PBook} {i0 k:Nat} {p:Per},(qaU i0 bs)[k]?=some p -> ∃ (i:Nat) (b:PBook) (n:Nat),bs[i]?=some b/\n<=zn b.ents/\p=⟨(i0+i:Nat),n⟩/\k=n+zF (bs.take i)
 | [],_,k,p,h=>by simp[qaU]at h
 | c::r,i0,k,p,h=>by
  rw[qaU]at h;by_cases hk:k<zn c.ents+1
  ·rw[List.getElem?_append_left (by rw[qbZ];exact hk)]at h
   unfold qkC at h;rw[List.getElem?_map,List.getElem?_range hk]at h;cases h;exact⟨0,c,k,rfl,by omega,rfl,rfl⟩
  ·rw[List.getElem?_append_right (by rw[qbZ];omega),qbZ]at h
   obtain⟨i,b,n,h1,h2,h3,h4⟩:=qmi h;refine⟨i+1,b,n,by rw[List.getElem?_cons_succ];exact h1,h2,by rw[h3,show i0+1+i=i0+(i+1) by omega],?_⟩;rw[List.take_succ_cons,qbM];omega
theorem qaj{l:PLog}{i:Nat}{b:PBook}{n:Nat}(h:l.books[i]?=some b)(hn:n<=zn b.ents):(qY l)[jx l i n]?=some ⟨i,n⟩:=by
 unfold qY jx;rw[show 1+n+zF (l.books.take i)=(n+zF (l.books.take i))+1 by omega,List.getElem?_cons_succ,qmh (i0:=0) h hn,Nat.zero_add]
theorem qio(l:PLog):(qY l).length=1+zF l.books:=by
 unfold qY;rw[List.length_cons,qgm];omega
theorem qep{l:PLog}{k:Nat}{p:Per}(h:(qY l)[k]?=some p):(p = .right/\k=0) \/ ∃ (i:Nat) (b:PBook) (n:Nat),l.books[i]?=some b/\n<=zn b.ents/\p=⟨i,n⟩/\k=jx l i n:=by
 unfold qY at h
 cases k with
 | zero=>rw[List.getElem?_cons_zero]at h;cases h;exact .inl ⟨rfl,rfl⟩
 | succ k=>
  rw[List.getElem?_cons_succ]at h;obtain⟨i,b,n,h1,h2,h3,h4⟩:=qmi h;rw[Nat.zero_add]at h3;exact .inr ⟨i,b,n,h1,h2,h3,by unfold jx;omega⟩
theorem qbn{l:PLog}{k k':Nat}{p:Per}(h:(qY l)[k]?=some p)(h':(qY l)[k']?=some p):k=k':=by
 rcases qep h with⟨e,h1⟩|⟨i,b,n,h1,h2,h3,h4⟩
 ·rcases qep h' with⟨_,h2⟩|⟨i,b,n,_,_,h3,_⟩
  ·omega
  ·rw[e]at h3
   injection h3 with h3
   omega
 ·rcases qep h' with⟨e,_⟩|⟨i',b',n',h1',h2',h3',h4'⟩
  ·rw[e]at h3
   injection h3 with h3
   omega
  ·rw[h3]at h3'
   injection h3' with h5 h6
   have hi:i=i':=by omega
   have hn:n=n':=by omega
   rw[h4,h4',hi,hn]
structure BookR(b:PBook):Prop where
 off : -720<=b.off.lo/\b.off.lo<=b.off.hi/\b.off.hi<=720
 set : -720<=b.set.lo/\b.set.lo<=b.set.hi/\b.set.hi<=720
 ents:b.ents.length<=8
 ent:∀ x∈b.ents,(0<=x.shown/\x.shown<=20000)/\(1<=x.kind/\x.kind<=3)/\(0<=x.number/\x.number<=99)
structure LogR(l:PLog):Prop where
 near:0<=l.near/\l.near<=60
 books:1<=l.books.length/\l.books.length<=3
 book:∀ b∈l.books,BookR b
theorem quS{wider:Int}{p:Per}{s:Span}{e:zu}(he:e∈jh wider p s)(hs : -720<=s.lo/\s.lo<=s.hi/\s.hi<=720)(hw:0<=wider/\wider<=1048576) : -1100000<=e.w/\e.w<=1100000:=by
 unfold jh at he;simp only[List.mem_cons,List.not_mem_nil,or_false]at he;rcases he with rfl|rfl
 ·simp only;omega
 ·simp only;omega
theorem quT{l:PLog}{wider:Int}{conf:List Int}(hR:LogR l)(hw:0<=wider/\wider<=1048576){e:zu}(h:Just l wider conf e) : -1100000<=e.w/\e.w<=1100000:=by
 have sh:∀ {i k b x},At l i k b x->0<=x.shown/\x.shown<=20000:=fun {i k b x} hx=>((hR.book b (List.mem_of_getElem? hx.book)).ent x (List.mem_of_getElem? hx.ent)).1
 cases h with
 | off i b hb e he=>exact quS he (hR.book b (List.mem_of_getElem? hb)).off hw
 | set i b hb n h1 h2 e he=>exact quS he (hR.book b (List.mem_of_getElem? hb)).set hw
 | ord i k b x y hx hy=>
  have h1:=sh hx;have h2:=sh hy;show -1100000<=y.shown-x.shown/\y.shown-x.shown<=1100000;omega
 | rep i j m n b c x y num h=>
  have h1:=sh h.ha;have h2:=sh h.hb;show -1100000<=y.shown-x.shown/\y.shown-x.shown<=1100000;omega
theorem qbe(b:PBook):zn b.ents<=b.ents.length:=by
 unfold zn;exact List.length_filter_le _ _
theorem qtN{l:PLog}{wider:Int}{conf:List Int}{i:Nat}{b:PBook}{pers:List (List Per)}{k:Nat}{y:PEnt}{s:LkE}:(qqC l wider conf i b pers k y s).steps.length<=s.steps.length+3:=by
 have h1:∀ (st:List zu) (e:zu),(if k=0 then st else st ++ [e]).length<=st.length+1:=fun st e=>by split<;>simp
 unfold qqC;simp only;have h2:=h1 s.steps ⟨((s.of ++ [s.now])[k-1]?).getD .right,s.now,y.shown-((b.ents[k-1]?).getD ⟨0,0,.empty,0⟩).shown⟩;generalize (if k=0 then s.steps else s.steps ++ [(⟨((s.of ++ [s.now])[k-1]?).getD .right,s.now,y.shown-((b.ents[k-1]?).getD ⟨0,0,.empty,0⟩).shown⟩:zu)])=st at h2 ⊢;split
 ·simp only[List.length_append,jh,List.length_cons,List.length_nil];omega
 ·split
  ·split
   ·simp only;omega
   ·split
    ·simp only;omega
    ·simp only[List.length_append,List.length_cons,List.length_nil];omega
  ·simp only;omega
theorem qmj{l:PLog}{wider:Int}{conf:List Int}{i:Nat}{b:PBook}{pers:List (List Per)}:∀ (r:List PEnt) {k:Nat} {s:LkE},(qeT l wider conf i b pers k r s).steps.length<=s.steps.length+3*r.length
 | [],k,s=>Nat.le_refl _
 | y::r,k,s=>by
  rw[qeT,List.length_cons];have h1:=qmj (l:=l) (wider:=wider) (conf:=conf) (i:=i) (b:=b) (pers:=pers) r (k:=k+1) (s:=qqC l wider conf i b pers k y s);have h2:=qtN (l:=l) (wider:=wider) (conf:=conf) (i:=i) (b:=b) (pers:=pers) (k:=k) (y:=y) (s:=s);omega
theorem qmk{l:PLog}{wider:Int}{conf:List Int}:∀ (bs:List PBook) {i:Nat} {s:LkS},(∀ b∈bs,b.ents.length<=8)->(qeU l wider conf i bs s).steps.length<=s.steps.length+26*bs.length
 | [],i,s,_=>Nat.le_refl _
 | b::r,i,s,h=>by
  rw[qeU,List.length_cons];have h1:=qmk (l:=l) (wider:=wider) (conf:=conf) r (i:=i+1) (s:=qik l wider conf i b s) fun c hc=>h c (by simp[hc]);have h2:=qmj (l:=l) (wider:=wider) (conf:=conf) (i:=i) (b:=b) (pers:=s.pers) b.ents (k:=0) (s:=⟨s.steps++jh wider ⟨i,0⟩ b.off,s.many+1,s.first,⟨i,0⟩,[],[]⟩);have h3:=h b (by simp);have h4:(qik l wider conf i b s).steps.length<=s.steps.length+2+3*b.ents.length:=by
   refine Nat.le_trans h2 ?_;simp[jh]
  omega
theorem qtO{l:PLog}(hR:LogR l)(wider:Int)(conf:List Int):(qX l wider conf).steps.length<=78:=by
 have:=qmk (l:=l) (wider:=wider) (conf:=conf) l.books (i:=0) (s:=⟨[],0,[],[]⟩) fun b hb=>(hR.book b hb).ents;have h2:=hR.books;unfold qX;simp only[List.length_nil]at this;omega
def qny(m:PM)(B:Int):Prop:=∀ p v,zr m p=some v -> -B<=v/\v<=B
theorem qrT{m:PM×Bool}{s:zu}{B:Int}(h:qny m.1 B)(hs : -1100000<=s.w/\s.w<=1100000):qny (qgl m s).1 (B+1100000):=by
 have up:qny m.1 (B+1100000):=fun p v hv=>by have:=h p v hv;omega
 unfold qgl
 cases h1:zr m.1 s.a with
 | none=>exact up
 | some n=>
  have hn:=h s.a n h1;have hput:qny (jJ m.1 s.b (n+s.w)) (B+1100000):=fun p v hv=>by
   rw[zA]at hv;split at hv
   ·cases hv;omega
   ·exact up p v hv
  simp only
  cases h2:zr m.1 s.b with
  | none=>exact hput
  | some x=>
   simp only;split
   ·exact hput
   ·exact up
def zk(x:PEnt):D:=if x.kind=1 then .ifc 138 (.agg [.str x.word]) else if x.kind=2 then .ifc 175 (.agg []) else if x.kind=3 then .ifc 156 (.agg [.str x.word,i64 x.number]) else .nili
theorem qsU(x:PEnt):FnV Tryz.prog 83 [x.d] (zk x):=by
 refine qJ mixed qm Tryz.func83 rfl (ft:=qAi) 1 (by decide +kernel) (by rfl) fun {σ} Y st=>?_;conv=>whnf
 unfold zk;refine qj (fun h1=>?_) (fun h1=>?_)
 ·rw[if_pos (of_decide_eq_true h1)]
  conv=>whnf
  exact qc 0 rfl ⟨⟨rfl,rfl⟩,rfl⟩
 ·rw[if_neg (of_decide_eq_false h1)]
  conv=>whnf
  refine qj (fun h2=>?_) (fun h2=>?_)
  ·rw[if_pos (of_decide_eq_true h2)]
   conv=>whnf
   exact qc 0 rfl ⟨⟨rfl,rfl⟩,rfl⟩
  ·rw[if_neg (of_decide_eq_false h2)]
   conv=>whnf
   refine qj (fun h3=>?_) (fun h3=>?_)
   ·rw[if_pos (of_decide_eq_true h3)]
    conv=>whnf
    exact qc 0 rfl ⟨⟨rfl,rfl⟩,rfl⟩
   ·rw[if_neg (of_decide_eq_false h3)]
    conv=>whnf
    exact qc 0 rfl ⟨⟨rfl,rfl⟩,rfl⟩
def qcM(n lo hi:Int):Bool:=!inB n lo hi
theorem qnz(lo hi n:Int):FnV Tryz.prog 59 [i64 lo,i64 hi,.vs [[i64 n]]] (.bool (qcM n lo hi)):=FnV.cast (qwL lo hi n) rfl
def qmP(x:PEnt):Int:=
 if qcM x.shown 0 20000 then 7
 else if x.kind=1 then (if qaO x.word&&decide (x.number=0) then 0 else 6)
 else if x.kind=2 then (if decide (x.word = .empty)&&decide (x.number=0) then 0 else 6)
 else if x.kind=3 then (if qaO x.word && !qcM x.number 1 99 then 0 else 6)
 else 4
theorem qAu(x:PEnt):FnV Tryz.prog 63 [x.d] (i64 (qmP x)):=by
 refine qJ mixed qm Tryz.func63 rfl (ft:=qzS) 1 (by decide +kernel) (by rfl) fun {σ} Y st=>?_;conv=>whnf
 refine qw (qnz 0 20000 x.shown) rfl 1 rfl ?_;unfold qmP
 cases h0:qcM x.shown 0 20000 with
 | true=>
  conv=>whnf
  exact qc 0 rfl ⟨⟨rfl,rfl⟩,rfl⟩
 | false=>
  conv=>whnf
  refine qk (qsU x) rfl rfl ?_;conv=>whnf
  have hw0:(x.word=(⟨#[]⟩:ByteArray))↔x.word = .empty:=Iff.rfl;by_cases h1:x.kind=1
  ·have ht:zk x = .ifc 138 (.agg [.str x.word]):=by unfold zk;rw[if_pos h1]
   rw[ht,if_pos h1];conv=>whnf
   refine qk (qyn x.word) rfl rfl ?_;conv=>whnf
   cases hn:qaO x.word with
   | false=>
    conv=>whnf
    exact qc 0 rfl ⟨⟨rfl,rfl⟩,rfl⟩
   | true=>
    conv=>whnf
    generalize decide (x.number=0)=B
    cases B with
    | false=>
     conv=>whnf
     exact qc 0 rfl ⟨⟨rfl,rfl⟩,rfl⟩
    | true=>
     conv=>whnf
     exact qc 0 rfl ⟨⟨rfl,rfl⟩,rfl⟩
  ·rw[if_neg h1]
   by_cases h2:x.kind=2
   ·have ht:zk x = .ifc 175 (.agg []):=by unfold zk;rw[if_neg h1,if_pos h2]
    rw[ht,if_pos h2];conv=>whnf
    have hw1:decide (x.word = .empty)=decide (x.word=(⟨#[]⟩:ByteArray)):=rfl;rw[hw1];generalize decide (x.word=(⟨#[]⟩:ByteArray))=A
    cases A with
    | false=>
     conv=>whnf
     exact qc 0 rfl ⟨⟨rfl,rfl⟩,rfl⟩
    | true=>
     conv=>whnf
     generalize decide (x.number=0)=B
     cases B with
     | false=>
      conv=>whnf
      exact qc 0 rfl ⟨⟨rfl,rfl⟩,rfl⟩
     | true=>
      conv=>whnf
      exact qc 0 rfl ⟨⟨rfl,rfl⟩,rfl⟩
   ·rw[if_neg h2]
    by_cases h3:x.kind=3
    ·have ht:zk x = .ifc 156 (.agg [.str x.word,i64 x.number]):=by unfold zk;rw[if_neg h1,if_neg h2,if_pos h3]
     rw[ht,if_pos h3];conv=>whnf
     refine qk (qyn x.word) rfl rfl ?_;conv=>whnf
     cases hn:qaO x.word with
     | false=>
      conv=>whnf
      exact qc 0 rfl ⟨⟨rfl,rfl⟩,rfl⟩
     | true=>
      conv=>whnf
      refine qw (qnz 1 99 x.number) rfl 1 rfl ?_
      cases h4:qcM x.number 1 99 with
      | false=>
       conv=>whnf
       exact qc 0 rfl ⟨⟨rfl,rfl⟩,rfl⟩
      | true=>
       conv=>whnf
       exact qc 0 rfl ⟨⟨rfl,rfl⟩,rfl⟩
    ·have ht:zk x = .nili:=by unfold zk;rw[if_neg h1,if_neg h2,if_neg h3]
     rw[ht,if_neg h3];conv=>whnf
     exact qc 0 rfl ⟨⟨rfl,rfl⟩,rfl⟩
theorem qAv(y x:PBook):FnV Tryz.prog 62 [.agg y.cells,.ref x.cells] (.bool (decide (y.name=x.name))):=by
 refine qJ mixed qm Tryz.func62 rfl (ft:=qzR) 2 (by decide +kernel) (by rfl) fun {σ} Y st=>?_;conv=>whnf
 exact qc 0 rfl ⟨⟨rfl,rfl⟩,rfl⟩
theorem qyo(l:List PBook)(g:FuncId)(caps:List D)(p:PBook->Bool)(hl:l.length<4000000000000000000)(hp:∀ x∈l,FnV Tryz.prog g (.agg x.cells::caps) (.bool (p x))) :
  FnV Tryz.prog 108 [qS l,.clo g caps] (i64 (jw p l 0)):=by
 refine qJ mixed qm Tryz.func108 rfl (ft:=qyb) 2 (by decide +kernel) (by rfl) fun {σ} Y st=>?_;conv=>whnf
 refine zd (T:=tys) qm (by exact qg mixed qm (by decide +kernel)) l (fun i (_:Unit)=>⟨[(0,.d (qS l)),(1,.d (.clo g caps)),(7,.d (i64 l.length)),(8,.d (i64 i))],[],st⟩) (fun i r _=>jw p l 0=jw p r i) () (Wk.sub (by repeat' first|constructor|(simp only[List.length_map];rfl)|simp[PX.get]) trivial) rfl ?_ ?_
 ·intro i x r _ hx hi hr he
  rw[jw]at he;conv=>whnf
  refine qj (fun _=>?_) (fun h=>absurd hi (by simpa using h));conv=>whnf
  refine qt hx ?_;conv=>whnf
  refine qk (hp x (List.mem_of_getElem? hx)) rfl rfl ?_;conv=>whnf
  refine qj (fun h1=>?_) (fun h1=>?_)
  ·conv=>whnf
   rw[he,if_pos h1];exact qc 0 rfl ⟨⟨rfl,rfl⟩,rfl⟩
  ·rw[if_neg (by simp[h1])]at he
   conv=>whnf
   refine qe (qb (by(try dsimp only);omega)) ?_;conv=>whnf
   exact⟨(),he,(Wk.sub (by repeat' first|constructor|(simp only[List.length_map];rfl)|simp[PX.get]) trivial)⟩
 ·intro _ he
  conv=>whnf
  refine qj (fun h=>absurd h (by simp)) (fun _=>?_);conv=>whnf
  rw[he];exact qc 0 rfl ⟨⟨rfl,rfl⟩,rfl⟩
theorem qAw(l:List PBook)(g:FuncId)(caps:List D)(p:PBook->Bool)(hl:l.length<4000000000000000000)(hp:∀ x∈l,FnV Tryz.prog g (.agg x.cells::caps) (.bool (p x))) :
  FnV Tryz.prog 61 [qS l,.clo g caps] (.bool (l.any p)):=by
 refine qJ mixed qm Tryz.func61 rfl (ft:=qzQ) 2 (by decide +kernel) (by rfl) fun {σ} Y st=>?_;conv=>whnf
 refine qk (qyo l g caps p hl hp) rfl rfl ?_;conv=>whnf
 refine qc 0 rfl ⟨⟨?_,rfl⟩,rfl⟩;rw[<- qbX p l 0 (by omega)];rfl
def qip(pre:List PBook)(b:PBook):Int:=
 if qaO b.name then
  if pre.any (fun x=>decide (x.name=b.name)) then 5
  else if qcM b.off.lo (-720) 720||qcM b.off.hi (-720) 720||qcM b.set.lo (-720) 720||qcM b.set.hi (-720) 720 then 7
  else if decide (b.off.lo>b.off.hi)||decide (b.set.lo>b.set.hi) then 2
  else if b.ents.length>8 then 3 else 0
 else 6
def qeu:List PEnt->Nat->Int×Int
 | [],_=>(0,0)
 | y::r,k=>if qmP y=0 then qeu r (k+1) else (k,qmP y)
def qbB:List PBook->List PBook->Nat->Int×Int×Int
 | _,[],_=>(0,0,0)
 | pre,b::r,i=>if qip pre b=0 then (if (qeu b.ents 0).2=0 then qbB (pre ++ [b]) r (i+1) else ((i+1:Nat),(qeu b.ents 0).1,(qeu b.ents 0).2)) else ((i+1:Nat),0,qip pre b)
def qaQ(l:PLog):Int×Int×Int:=
 if qcM l.near 0 60 then (0,0,7) else if qcM l.books.length 1 3 then (0,0,3) else qbB [] l.books 0
def qzb(x:Int×Int×Int):D:=.tup [i64 x.1,i64 x.2.1,i64 x.2.2]
theorem qyp(lo hi a b c d:Int):FnV Tryz.prog 59 [i64 lo,i64 hi,.vs [[i64 a],[i64 b],[i64 c],[i64 d]]] (.bool (qcM a lo hi||qcM b lo hi||qcM c lo hi||qcM d lo hi)):=FnV.cast (qza lo hi [a,b,c,d] (by simp)) (by simp[qcM,inB,Bool.or_assoc,Int.not_le];grind)
theorem qAx(l:PLog):FnV Tryz.prog 17 [l.d] (qzb (qaQ l)):=by
 refine qJ mixed qm Tryz.func17 rfl (ft:=qzv) 1 (by decide +kernel) (by rfl) fun {σ} Y st=>?_;conv=>whnf
 unfold qaQ;refine qw (qnz 0 60 _) rfl 1 rfl ?_
 cases h0:qcM l.near 0 60 with
 | true=>
  conv=>whnf
  exact qc 0 rfl ⟨⟨rfl,rfl⟩,rfl⟩
 | false=>
  conv=>whnf
  refine qw (qnz 1 3 l.books.length) rfl 1 (by
   show some _=some _;simp[qS]) ?_
  conv=>whnf
  cases h1:qcM l.books.length 1 3 with
  | true=>
   conv=>whnf
   exact qc 0 rfl ⟨⟨rfl,rfl⟩,rfl⟩
  | false=>
   have hlen:l.books.length<=3:=by
    have h1:=h1;unfold qcM inB at h1;simp at h1;omega
   simp only[if_false,Bool.false_eq_true];conv=>whnf
   generalize hK:qbB [] l.books 0=K;refine zd (T:=tys) qm (by exact qg mixed qm (by decide +kernel)) l.books (fun i (_:Unit)=>⟨[(1,.ptr 1 0),(21,.d (qS l.books)),(22,.d (i64 l.books.length)),(23,.d (i64 i))],[(1,.box (.dd l.cells))],st⟩)
    (fun i r _=>qbB (l.books.take i) r i=K) () (Wk.sub (by repeat' first|constructor|(simp only[List.length_map];rfl)|simp[PX.get]) ⟨(by first|rfl|(simp only[List.length_map];rfl)|simp[PX.get]),trivial⟩) hK ?_ ?_
   ·rintro i b r _ hx hi hr he
    rw[qbB]at he;have htk:l.books.take (i+1)=l.books.take i ++ [b]:=by rw[List.take_succ,hx];rfl
    conv=>whnf
    refine qj (fun _=>?_) (fun h=>absurd hi (by simpa using h));conv=>whnf
    refine qt hx ?_;conv=>whnf
    refine qk (qyn b.name) rfl rfl ?_;unfold qip at he
    cases h2:qaO b.name with
    | false=>
     rw[h2]at he;simp only[if_false,Bool.false_eq_true]at he;conv=>whnf
     refine qe (qb (by(try dsimp only);omega)) ?_;conv=>whnf
     rw[<- he];exact qc 0 rfl ⟨⟨rfl,rfl⟩,rfl⟩
    | true=>
     rw[h2]at he;simp only[if_true]at he;conv=>whnf
     refine zx (by simp;omega) ?_;conv=>whnf
     refine zx (by cases l.books<;>rfl) ?_;conv=>whnf
     refine qw (ds:=[qS (l.books.take i),.clo 62 [.ref b.cells]]) (qAw (l.books.take i) 62 [.ref b.cells] (fun y=>decide (y.name=b.name)) (by simp;omega) fun y _=>qAv y b) rfl 1 (by show some _=some _;simp[qS,List.map_take];rfl) ?_;generalize hany:((l.books.take i).any fun y=>decide (y.name=b.name))=A at he ⊢
     cases A with
     | true=>
      simp only[if_true]at he;conv=>whnf
      refine qe (qb (by(try dsimp only);omega)) ?_;conv=>whnf
      rw[<- he];exact qc 0 rfl ⟨⟨rfl,rfl⟩,rfl⟩
     | false=>
      simp only[if_false,Bool.false_eq_true]at he;conv=>whnf
      refine qw (qyp (-720) 720 b.off.lo b.off.hi b.set.lo b.set.hi) rfl 1 rfl ?_;generalize (qcM b.off.lo (-720) 720||qcM b.off.hi (-720) 720||qcM b.set.lo (-720) 720||qcM b.set.hi (-720) 720)=A at he ⊢
      cases A with
      | true=>
       simp only[if_true]at he;conv=>whnf
       refine qe (qb (by(try dsimp only);omega)) ?_;conv=>whnf
       rw[<- he];exact qc 0 rfl ⟨⟨rfl,rfl⟩,rfl⟩
      | false=>
       simp only[if_false,Bool.false_eq_true]at he;conv=>whnf
       have e1:decide (b.off.lo>b.off.hi)=decide (b.off.hi<b.off.lo):=rfl;have e2:decide (b.set.lo>b.set.hi)=decide (b.set.hi<b.set.lo):=rfl;rw[e1,e2]at he;generalize decide (b.off.hi<b.off.lo)=A at he ⊢
       cases A with
       | true=>
        simp only[Bool.true_or,if_true]at he;conv=>whnf
        refine qe (qb (by(try dsimp only);omega)) ?_;conv=>whnf
        rw[<- he];exact qc 0 rfl ⟨⟨rfl,rfl⟩,rfl⟩
       | false=>
        simp only[Bool.false_or]at he;conv=>whnf
        generalize decide (b.set.hi<b.set.lo)=B at he ⊢
        cases B with
        | true=>
         simp only[if_true]at he;conv=>whnf
         refine qe (qb (by(try dsimp only);omega)) ?_;conv=>whnf
         rw[<- he];exact qc 0 rfl ⟨⟨rfl,rfl⟩,rfl⟩
        | false=>
         simp only[if_false,Bool.false_eq_true]at he;conv=>whnf
         refine qj (fun h3=>?_) (fun h3=>?_)
         ·have h3:b.ents.length>8:=by have:=of_decide_eq_true h3;simp at this;omega
          rw[if_pos h3]at he;conv=>whnf
          refine qe (qb (by(try dsimp only);omega)) ?_;conv=>whnf
          rw[<- he];exact qc 0 rfl ⟨⟨rfl,rfl⟩,rfl⟩
         ·have h3:¬ b.ents.length>8:=by have:=of_decide_eq_false h3;simp at this;omega
          rw[if_neg h3,if_pos rfl]at he;conv=>whnf
          generalize hE:qeu b.ents 0=E at he;refine zd (T:=tys) qm (by exact qg mixed qm (by decide +kernel)) b.ents (fun k (_:Unit)=>⟨[(1,.ptr 1 0),(21,.d (qS l.books)),(22,.d (i64 l.books.length)),(23,.d (i64 i)),(5,.d (i64 i)),(88,.d (qeS b.ents)),(89,.d (i64 b.ents.length)),(90,.d (i64 k))],[(1,.box (.dd l.cells))],st⟩)
           (fun k r _=>qeu r k=E) () (Wk.sub (by repeat' first|constructor|(simp only[List.length_map];rfl)|simp[PX.get]) ⟨(by first|rfl|(simp only[List.length_map];rfl)|simp[PX.get]),trivial⟩) hE ?_ ?_
          ·rintro k y r2 _ hy hk hr2 he2
           rw[qeu]at he2;conv=>whnf
           refine qj (fun _=>?_) (fun h=>absurd hk (by simpa using h));conv=>whnf
           refine qt hy ?_;conv=>whnf
           refine qk (qAu y) rfl rfl ?_;conv=>whnf
           refine qj (fun h4=>?_) (fun h4=>?_)
           ·have h4:¬ qmP y=0:=by simpa using h4
            rw[if_neg h4]at he2;subst he2;rw[if_neg h4]at he;conv=>whnf
            refine qe (qb (by(try dsimp only);omega)) ?_;conv=>whnf
            rw[<- he];exact qc 0 rfl ⟨⟨rfl,rfl⟩,rfl⟩
           ·have h4:qmP y=0:=by simpa using h4
            rw[if_pos h4]at he2;conv=>whnf
            refine qe (qb (by(try dsimp only);omega)) ?_;conv=>whnf
            exact⟨(),he2,(Wk.sub (by repeat' first|constructor|(simp only[List.length_map];rfl)|simp[PX.get]) ⟨(by first|rfl|(simp only[List.length_map];rfl)|simp[PX.get]),trivial⟩)⟩
          ·rintro _ he2
           have he2:((0,0):Int×Int)=E:=he2;subst he2;rw[if_pos rfl,<- htk]at he;conv=>whnf
           refine qj (fun h=>absurd h (by simp)) (fun _=>?_);conv=>whnf
           refine qe (qb (by(try dsimp only);omega)) ?_;conv=>whnf
           exact⟨(),he,(Wk.sub (by repeat' first|constructor|(simp only[List.length_map];rfl)|simp[PX.get]) ⟨(by first|rfl|(simp only[List.length_map];rfl)|simp[PX.get]),trivial⟩)⟩
   ·rintro _ he
    rw[qbB]at he;subst he;conv=>whnf
    refine qj (fun h=>absurd h (by simp)) (fun _=>?_);conv=>whnf
    exact qc 0 rfl ⟨⟨rfl,rfl⟩,rfl⟩
section
variable {κ ν : Type} [DecidableEq κ] (kd : κ -> D) (vd : ν -> D)
def kvV(m:List (κ×ν)):List (D×D):=m.map fun p=>(kd p.1,vd p.2)
variable {kd vd}
theorem qs(hs:∀ a b,qdF (kd a) (kd b)=some (decide (a=b))){t:κ}:∀ {m:List (κ×ν)},zr m t=none -> ∀ n,qdG (kd t) (kvV kd vd m) n=some none
 | [],_,n=>rfl
 | (u,x)::r,h,n=>by
  rw[zr]at h;split at h
  ·cases h
  ·rename_i hu
   show(match qdF (kd t) (kd u) with
    | some true=>some (some (n,vd x))
    | some false=>qdG (kd t) (kvV kd vd r) (n+1)
    | none=>none)=_
   rw[hs,decide_eq_false hu];exact qs hs h (n+1)
theorem qD(hs:∀ a b,qdF (kd a) (kd b)=some (decide (a=b))){t:κ}{v:ν}:∀ {m:List (κ×ν)},zr m t=some v -> ∀ n,∃ i,i<m.length/\qdG (kd t) (kvV kd vd m) n=some (some (n+i,vd v))/\(∀ y,(kvV kd vd m).set i (kd t,vd y)=kvV kd vd (jJ m t y))/\setKey (kvV kd vd m) i (kd t)=kvV kd vd m /\ ∀ y,setVal (kvV kd vd m) i (vd y)=kvV kd vd (jJ m t y)
 | [],h,n=>by cases h
 | (u,x)::r,h,n=>by
  rw[zr]at h;split at h
  ·rename_i hu
   cases h;subst hu;refine⟨0,by simp,?_,fun y=>?_,rfl,fun y=>?_⟩
   ·show(match qdF (kd t) (kd t) with
     | some true=>some (some (n,vd v))
     | some false=>qdG (kd t) (kvV kd vd r) (n+1)
     | none=>none)=_
    rw[hs,decide_eq_true rfl];rfl
   ·rw[jJ,if_pos rfl];rfl
   ·rw[jJ,if_pos rfl];rfl
  ·rename_i hu
   obtain⟨i,h0,h1,h2,h3,h4⟩:=qD hs h (n+1);refine⟨i+1,by simp;omega,?_,fun y=>?_,?_,fun y=>?_⟩
   ·show(match qdF (kd t) (kd u) with
     | some true=>some (some (n,vd x))
     | some false=>qdG (kd t) (kvV kd vd r) (n+1)
     | none=>none)=_
    rw[hs,decide_eq_false hu];show qdG (kd t) (kvV kd vd r) (n+1)=_;rw[h1,show n+1+i=n+(i+1) by omega]
   ·rw[jJ,if_neg hu]
    show(kd u,vd x)::(kvV kd vd r).set i (kd t,vd y)=(kd u,vd x)::kvV kd vd (jJ r t y);rw[h2 y]
   ·show(kd u,vd x)::setKey (kvV kd vd r) i (kd t)=_
    rw[h3];rfl
   ·rw[jJ,if_neg hu]
    show(kd u,vd x)::setVal (kvV kd vd r) i (vd y)=(kd u,vd x)::kvV kd vd (jJ r t y);rw[h4 y]
theorem zg{t:κ}(y:ν):∀ {m:List (κ×ν)},zr m t=none->kvV kd vd m ++ [(kd t,vd y)]=kvV kd vd (jJ m t y)
 | [],_=>rfl
 | (u,x)::r,h=>by
  rw[zr]at h;split at h
  ·cases h
  ·rename_i hu
   rw[jJ,if_neg hu];show(kd u,vd x)::(kvV kd vd r ++ [(kd t,vd y)])=_;rw[zg y h];rfl
end
def qG(n:Int):D:=i64 n
theorem zU(a b:Per):qdF a.d b.d=some (decide (a=b)):=by
 show some (decide (a.book=b.book)&&(decide (a.n=b.n)&&true))=_
 congr 1
 cases a;cases b
 simp
theorem qv(a b:Int):qdF (qG a) (qG b)=some (decide (a=b)):=rfl
def pmD(m:PM):List (D×D):=kvV Per.d qG m
def qoR(l:List zu):D:=.vs (l.map qwP)
def qyq(l:List (List Per)):D:=.vs (l.map fun r=>[.vs (r.map Per.cells)])
def qyr(l:PLog)(x:LkS):List D:=[i64 l.near,qS l.books,qoR x.steps,qyq x.pers,i64 x.many]
def qak(l:PLog)(x:LkS):D:=.ref (qyr l x)
theorem qtP:FnV Tryz.prog 70 [] Per.right.d:=by
 refine qJ mixed qm Tryz.func70 rfl (ft:=qzY) 0 (by decide +kernel) (by rfl) fun {σ} Y st=>?_;conv=>whnf
 exact qc 0 rfl ⟨⟨rfl,rfl⟩,rfl⟩
structure LookR(x:LkS):Prop where
 len:x.steps.length<=78
 w:∀ e∈x.steps,-1100000<=e.w/\e.w<=1100000
 many:0<=x.many/\x.many<=30
theorem qxw(l:PLog)(x:LkS)(hR:LookR x)(p:Per):FnV Tryz.prog 69 [qak l x,p.d] (.tup [if qoL x (qcY x p)=true then .mv (pmD (qcY x p)) else .nilm,.bool (qoL x (qcY x p))]):=by
 refine qJ mixed qm Tryz.func69 rfl (ft:=qzX) 2 (by decide +kernel) (by rfl) fun {σ} Y st=>?_;conv=>whnf
 have hlen:=hR.len;have hmany:=hR.many;have hst:x.steps.length<4000000000000000000:=by omega
 refine⟨none,rfl,?_⟩;conv=>whnf
 refine qn (((x.many+2).toNat:Nat):Int) (by omega) (qb (by omega)) ?_;conv=>whnf
 unfold qcY;have hK:(x.many+2).toNat<=32:=by omega
 generalize (x.many+2).toNat=N at hK ⊢;generalize hRES:qbY x.steps N [(p,0)]=RES;refine zI (T:=tys) qm (by exact qg mixed qm (by decide +kernel)) (α:=Nat×PM) (fun z=>⟨[(0,.d (qak l x)),(6,.mp 16),(23,.d (i64 N)),(24,.d (i64 z.1))],[(16,.map (pmD z.2))],st⟩)
  (fun z=>z.1<=N/\qny z.2 (100000000*z.1)/\qbY x.steps (N-z.1) z.2=RES) (fun z=>N-z.1) (0,[(p,0)]) (Wk.sub (by repeat' first|constructor|(simp only[List.length_map];rfl)|simp[PX.get]) ⟨(by first|rfl|(simp only[List.length_map];rfl)|simp[PX.get]),trivial⟩) ⟨Nat.zero_le _,?_,by simpa using hRES⟩ ?_
 ·intro q v hv
  simp only at hv;rw[zr]at hv;split at hv
  ·cases hv;simp
  ·cases hv
 rintro ⟨i,m⟩ ⟨hi,hb,hr⟩;simp only at hi hb hr;conv=>whnf
 refine qj (fun h1=>?_) (fun h1=>?_)
 ·have h1:i<N:=by have:=of_decide_eq_true h1;simp only at this;omega
  obtain⟨f,hf⟩:∃ f,N-i=f+1:=⟨N-i-1,by omega⟩;rw[hf,qbY]at hr;generalize hRM:qil x.steps m=RM at hr;conv=>whnf
  refine zd (T:=tys) qm (by exact qg mixed qm (by decide +kernel)) x.steps (fun k (y:PM×Bool)=>⟨[(0,.d (qak l x)),(6,.mp 16),(7,.d (.bool y.2)),(23,.d (i64 N)),(24,.d (i64 i)),(29,.d (qoR x.steps)),(30,.d (i64 x.steps.length)),(31,.d (i64 k))],[(16,.map (pmD y.1))],st⟩)
   (fun k r y=>r.foldl qgl y=RM/\qny y.1 (100000000*i+1100000*k)) (m,false) (Wk.sub (by repeat' first|constructor|(simp only[List.length_map];rfl)|simp[PX.get]) ⟨(by first|rfl|(simp only[List.length_map];rfl)|simp[PX.get]),trivial⟩) ⟨hRM,by simpa using hb⟩ ?_ ?_
  ·rintro k s r ⟨m1,ch⟩ hs hk hr2 ⟨hfold,hbm⟩
   have hsw:=hR.w s (List.mem_of_getElem? hs);have hb2:=qrT (m:=(m1,ch)) hbm hsw;rw[List.foldl_cons]at hfold;conv=>whnf
   refine qj (fun _=>?_) (fun h=>absurd hk (by simpa using h));conv=>whnf
   refine qt hs ?_;conv=>whnf
   cases h2:zr m1 s.a with
   | none=>
    have ht:qgl (m1,ch) s=(m1,ch):=by unfold qgl;simp only[h2]
    rw[ht]at hfold hb2;refine⟨none,qs (kd:=Per.d) zU h2 0,?_⟩;conv=>whnf
    refine qe (qb (by(try dsimp only);omega)) ?_;conv=>whnf
    exact⟨(m1,ch),⟨hfold,fun q v hv=>by have:=hb2 q v hv;omega⟩,(Wk.sub (by repeat' first|constructor|(simp only[List.length_map];rfl)|simp[PX.get]) ⟨(by first|rfl|(simp only[List.length_map];rfl)|simp[PX.get]),trivial⟩)⟩
   | some n=>
    have hn:=hbm s.a n h2;obtain⟨ix,_,hx1,_⟩:=qD (kd:=Per.d) (vd:=qG) zU h2 0;refine⟨_,hx1,?_⟩;conv=>whnf
    cases h3:zr m1 s.b with
    | none=>
     have ht:qgl (m1,ch) s=(jJ m1 s.b (n+s.w),true):=by unfold qgl;simp only[h2,h3]
     refine⟨none,qs (kd:=Per.d) zU h3 0,?_⟩;conv=>whnf
     refine qe (qb (by(try dsimp only);omega)) ?_;conv=>whnf
     refine⟨none,qs (kd:=Per.d) zU h3 0,?_⟩;rw[ht]at hfold hb2;conv=>whnf
     refine qe (qb (by(try dsimp only);omega)) ?_;conv=>whnf
     refine⟨(jJ m1 s.b (n+s.w),true),⟨hfold,fun q v hv=>by have:=hb2 q v hv;omega⟩,Wk.sub ⟨rfl,rfl,rfl,rfl,rfl,rfl,rfl,rfl,trivial⟩ ⟨?_,trivial⟩⟩;exact congrArg (fun z=>some (Obj.map z)) (zg (kd:=Per.d) (vd:=qG) (n+s.w) h3)
    | some v2=>
     obtain⟨iy,_,hy1,hy2,_⟩:=qD (kd:=Per.d) (vd:=qG) zU h3 0;refine⟨_,hy1,?_⟩;conv=>whnf
     refine qe (qb (by(try dsimp only);omega)) ?_;conv=>whnf
     refine qj (fun h4=>?_) (fun h4=>?_)
     ·have h4:n+s.w<v2:=of_decide_eq_true h4
      have ht:qgl (m1,ch) s=(jJ m1 s.b (n+s.w),true):=by unfold qgl;simp only[h2,h3];rw[if_pos h4]
      conv=>whnf
      refine qe (qb (by(try dsimp only);omega)) ?_;conv=>whnf
      refine⟨_,hy1,?_⟩;rw[ht]at hfold hb2;conv=>whnf
      refine qe (qb (by(try dsimp only);omega)) ?_;conv=>whnf
      refine⟨(jJ m1 s.b (n+s.w),true),⟨hfold,fun q v hv=>by have:=hb2 q v hv;omega⟩,Wk.sub ⟨rfl,rfl,rfl,rfl,rfl,rfl,rfl,rfl,trivial⟩ ⟨?_,trivial⟩⟩
      (show some (Obj.map ((pmD m1).set (0+iy) (s.b.d,i64 (n+s.w))))=_);rw[Nat.zero_add];exact congrArg (fun z=>some (Obj.map z)) (hy2 (n+s.w))
     ·have h4:¬ n+s.w<v2:=of_decide_eq_false h4
      have ht:qgl (m1,ch) s=(m1,ch):=by unfold qgl;simp only[h2,h3];rw[if_neg h4]
      rw[ht]at hfold hb2;conv=>whnf
      refine qe (qb (by(try dsimp only);omega)) ?_;conv=>whnf
      exact⟨(m1,ch),⟨hfold,fun q v hv=>by have:=hb2 q v hv;omega⟩,(Wk.sub (by repeat' first|constructor|(simp only[List.length_map];rfl)|simp[PX.get]) ⟨(by first|rfl|(simp only[List.length_map];rfl)|simp[PX.get]),trivial⟩)⟩
  ·rintro ⟨m1,ch⟩ ⟨hfold,hbm⟩
   have hfold:(m1,ch)=RM:=hfold;conv=>whnf
   refine qj (fun h=>absurd h (by simp)) (fun _=>?_);conv=>whnf
   refine qj (fun h2=>?_) (fun h2=>?_)
   ·have h2:ch=false:=by simpa using h2
    subst h2;rw[<- hfold]at hr;simp only[if_false,Bool.false_eq_true]at hr;subst hr;have hbT:qny m1 10000000000:=fun q v hv=>by have:=hbm q v hv;omega
    clear hbm;conv=>whnf
    refine zd (T:=tys) qm (by exact qg mixed qm (by decide +kernel)) x.steps (fun k (_:Unit)=>⟨[(0,.d (qak l x)),(6,.mp 16),(75,.d (qoR x.steps)),(76,.d (i64 x.steps.length)),(77,.d (i64 k))],[(16,.map (pmD m1))],st⟩)
     (fun k r _=>qoL x m1=r.all fun s=>decide (atM m1 s.b<=atM m1 s.a+s.w)) () (Wk.sub (by repeat' first|constructor|(simp only[List.length_map];rfl)|simp[PX.get]) ⟨(by first|rfl|(simp only[List.length_map];rfl)|simp[PX.get]),trivial⟩) rfl ?_ ?_
    ·rintro k s r _ hs hk hr2 hall
     have hsw:=hR.w s (List.mem_of_getElem? hs);rw[List.all_cons]at hall;conv=>whnf
     refine qj (fun _=>?_) (fun h=>absurd hk (by simpa using h));conv=>whnf
     refine qt hs ?_;conv=>whnf
     have hba:=hbT s.a;have hbb:=hbT s.b
     cases h2:zr m1 s.a with
     | none=>
      have e1:atM m1 s.a=0:=by unfold atM;rw[h2];rfl
      rw[e1]at hall;refine⟨none,qs (kd:=Per.d) zU h2 0,?_⟩;conv=>whnf
      refine qe (qb (by(try dsimp only);omega)) ?_;conv=>whnf
      cases h3:zr m1 s.b with
      | none=>
       have e2:atM m1 s.b=0:=by unfold atM;rw[h3];rfl
       rw[e2]at hall;refine⟨none,qs (kd:=Per.d) zU h3 0,?_⟩;conv=>whnf
       refine qj (fun h4=>?_) (fun h4=>?_)
       ·have h4:0+s.w<0:=of_decide_eq_true h4
        rw[decide_eq_false (by omega),Bool.false_and]at hall;rw[hall];simp only[if_false,Bool.false_eq_true];conv=>whnf
        exact qc 0 rfl ⟨⟨rfl,rfl⟩,rfl⟩
       ·have h4:¬ 0+s.w<0:=of_decide_eq_false h4
        rw[decide_eq_true (by omega),Bool.true_and]at hall;conv=>whnf
        refine qe (qb (by(try dsimp only);omega)) ?_;conv=>whnf
        exact⟨(),hall,(Wk.sub (by repeat' first|constructor|(simp only[List.length_map];rfl)|simp[PX.get]) ⟨(by first|rfl|(simp only[List.length_map];rfl)|simp[PX.get]),trivial⟩)⟩
      | some v2=>
       have e2:atM m1 s.b=v2:=by unfold atM;rw[h3];rfl
       rw[e2]at hall;obtain⟨iy,_,hy1,_⟩:=qD (kd:=Per.d) (vd:=qG) zU h3 0;refine⟨_,hy1,?_⟩;conv=>whnf
       refine qj (fun h4=>?_) (fun h4=>?_)
       ·have h4:0+s.w<v2:=of_decide_eq_true h4
        rw[decide_eq_false (by omega),Bool.false_and]at hall;rw[hall];simp only[if_false,Bool.false_eq_true];conv=>whnf
        exact qc 0 rfl ⟨⟨rfl,rfl⟩,rfl⟩
       ·have h4:¬ 0+s.w<v2:=of_decide_eq_false h4
        rw[decide_eq_true (by omega),Bool.true_and]at hall;conv=>whnf
        refine qe (qb (by(try dsimp only);omega)) ?_;conv=>whnf
        exact⟨(),hall,(Wk.sub (by repeat' first|constructor|(simp only[List.length_map];rfl)|simp[PX.get]) ⟨(by first|rfl|(simp only[List.length_map];rfl)|simp[PX.get]),trivial⟩)⟩
     | some n=>
      have hn:=hba n h2;have e1:atM m1 s.a=n:=by unfold atM;rw[h2];rfl
      rw[e1]at hall;obtain⟨ix,_,hx1,_⟩:=qD (kd:=Per.d) (vd:=qG) zU h2 0;refine⟨_,hx1,?_⟩;conv=>whnf
      refine qe (qb (by(try dsimp only);omega)) ?_;conv=>whnf
      cases h3:zr m1 s.b with
      | none=>
       have e2:atM m1 s.b=0:=by unfold atM;rw[h3];rfl
       rw[e2]at hall;refine⟨none,qs (kd:=Per.d) zU h3 0,?_⟩;conv=>whnf
       refine qj (fun h4=>?_) (fun h4=>?_)
       ·have h4:n+s.w<0:=of_decide_eq_true h4
        rw[decide_eq_false (by omega),Bool.false_and]at hall;rw[hall];simp only[if_false,Bool.false_eq_true];conv=>whnf
        exact qc 0 rfl ⟨⟨rfl,rfl⟩,rfl⟩
       ·have h4:¬ n+s.w<0:=of_decide_eq_false h4
        rw[decide_eq_true (by omega),Bool.true_and]at hall;conv=>whnf
        refine qe (qb (by(try dsimp only);omega)) ?_;conv=>whnf
        exact⟨(),hall,(Wk.sub (by repeat' first|constructor|(simp only[List.length_map];rfl)|simp[PX.get]) ⟨(by first|rfl|(simp only[List.length_map];rfl)|simp[PX.get]),trivial⟩)⟩
      | some v2=>
       have e2:atM m1 s.b=v2:=by unfold atM;rw[h3];rfl
       rw[e2]at hall;obtain⟨iy,_,hy1,_⟩:=qD (kd:=Per.d) (vd:=qG) zU h3 0;refine⟨_,hy1,?_⟩;conv=>whnf
       refine qj (fun h4=>?_) (fun h4=>?_)
       ·have h4:n+s.w<v2:=of_decide_eq_true h4
        rw[decide_eq_false (by omega),Bool.false_and]at hall;rw[hall];simp only[if_false,Bool.false_eq_true];conv=>whnf
        exact qc 0 rfl ⟨⟨rfl,rfl⟩,rfl⟩
       ·have h4:¬ n+s.w<v2:=of_decide_eq_false h4
        rw[decide_eq_true (by omega),Bool.true_and]at hall;conv=>whnf
        refine qe (qb (by(try dsimp only);omega)) ?_;conv=>whnf
        exact⟨(),hall,(Wk.sub (by repeat' first|constructor|(simp only[List.length_map];rfl)|simp[PX.get]) ⟨(by first|rfl|(simp only[List.length_map];rfl)|simp[PX.get]),trivial⟩)⟩
    ·rintro _ hall
     have hall:qoL x m1=true:=hall;rw[hall];simp only[if_true];conv=>whnf
     refine qj (fun h=>absurd h (by simp)) (fun _=>?_);conv=>whnf
     refine qc 1 (ds:=[.mv (pmD m1),.bool true]) (qy (qhf rfl) rfl) ⟨⟨rfl,rfl⟩,rfl⟩
   ·have h2:ch=true:=by simpa using h2
    subst h2;rw[<- hfold]at hr;simp only[if_true]at hr;conv=>whnf
    refine qe (qb (by(try dsimp only);omega)) ?_;conv=>whnf
    exact⟨(i+1,m1),by simp only;omega,⟨by simp only;omega,fun q v hv=>by have:=hbm q v hv;simp only;omega,by simp only;rw[show N-(i+1)=f by omega];exact hr⟩,(Wk.sub (by repeat' first|constructor|(simp only[List.length_map];rfl)|simp[PX.get]) ⟨(by first|rfl|(simp only[List.length_map];rfl)|simp[PX.get]),trivial⟩)⟩
 ·have h1:¬ i<N:=by have:=of_decide_eq_false h1;simp only at this;omega
  have hm:m=RES:=by rw[show N-i=0 by omega,qbY]at hr;exact hr
  subst hm;have hbT:qny m 10000000000:=fun q v hv=>by have:=hb q v hv;omega
  clear hb;conv=>whnf
  refine zd (T:=tys) qm (by exact qg mixed qm (by decide +kernel)) x.steps (fun k (_:Unit)=>⟨[(0,.d (qak l x)),(6,.mp 16),(75,.d (qoR x.steps)),(76,.d (i64 x.steps.length)),(77,.d (i64 k))],[(16,.map (pmD m))],st⟩)
   (fun k r _=>qoL x m=r.all fun s=>decide (atM m s.b<=atM m s.a+s.w)) () (Wk.sub (by repeat' first|constructor|(simp only[List.length_map];rfl)|simp[PX.get]) ⟨(by first|rfl|(simp only[List.length_map];rfl)|simp[PX.get]),trivial⟩) rfl ?_ ?_
  ·rintro k s r _ hs hk hr2 hall
   have hsw:=hR.w s (List.mem_of_getElem? hs);rw[List.all_cons]at hall;conv=>whnf
   refine qj (fun _=>?_) (fun h=>absurd hk (by simpa using h));conv=>whnf
   refine qt hs ?_;conv=>whnf
   have hba:=hbT s.a;have hbb:=hbT s.b
   cases h2:zr m s.a with
   | none=>
    have e1:atM m s.a=0:=by unfold atM;rw[h2];rfl
    rw[e1]at hall;refine⟨none,qs (kd:=Per.d) zU h2 0,?_⟩;conv=>whnf
    refine qe (qb (by(try dsimp only);omega)) ?_;conv=>whnf
    cases h3:zr m s.b with
    | none=>
     have e2:atM m s.b=0:=by unfold atM;rw[h3];rfl
     rw[e2]at hall;refine⟨none,qs (kd:=Per.d) zU h3 0,?_⟩;conv=>whnf
     refine qj (fun h4=>?_) (fun h4=>?_)
     ·have h4:0+s.w<0:=of_decide_eq_true h4
      rw[decide_eq_false (by omega),Bool.false_and]at hall;rw[hall];simp only[if_false,Bool.false_eq_true];conv=>whnf
      exact qc 0 rfl ⟨⟨rfl,rfl⟩,rfl⟩
     ·have h4:¬ 0+s.w<0:=of_decide_eq_false h4
      rw[decide_eq_true (by omega),Bool.true_and]at hall;conv=>whnf
      refine qe (qb (by(try dsimp only);omega)) ?_;conv=>whnf
      exact⟨(),hall,(Wk.sub (by repeat' first|constructor|(simp only[List.length_map];rfl)|simp[PX.get]) ⟨(by first|rfl|(simp only[List.length_map];rfl)|simp[PX.get]),trivial⟩)⟩
    | some v2=>
     have e2:atM m s.b=v2:=by unfold atM;rw[h3];rfl
     rw[e2]at hall;obtain⟨iy,_,hy1,_⟩:=qD (kd:=Per.d) (vd:=qG) zU h3 0;refine⟨_,hy1,?_⟩;conv=>whnf
     refine qj (fun h4=>?_) (fun h4=>?_)
     ·have h4:0+s.w<v2:=of_decide_eq_true h4
      rw[decide_eq_false (by omega),Bool.false_and]at hall;rw[hall];simp only[if_false,Bool.false_eq_true];conv=>whnf
      exact qc 0 rfl ⟨⟨rfl,rfl⟩,rfl⟩
     ·have h4:¬ 0+s.w<v2:=of_decide_eq_false h4
      rw[decide_eq_true (by omega),Bool.true_and]at hall;conv=>whnf
      refine qe (qb (by(try dsimp only);omega)) ?_;conv=>whnf
      exact⟨(),hall,(Wk.sub (by repeat' first|constructor|(simp only[List.length_map];rfl)|simp[PX.get]) ⟨(by first|rfl|(simp only[List.length_map];rfl)|simp[PX.get]),trivial⟩)⟩
   | some n=>
    have hn:=hba n h2;have e1:atM m s.a=n:=by unfold atM;rw[h2];rfl
    rw[e1]at hall;obtain⟨ix,_,hx1,_⟩:=qD (kd:=Per.d) (vd:=qG) zU h2 0;refine⟨_,hx1,?_⟩;conv=>whnf
    refine qe (qb (by(try dsimp only);omega)) ?_;conv=>whnf
    cases h3:zr m s.b with
    | none=>
     have e2:atM m s.b=0:=by unfold atM;rw[h3];rfl
     rw[e2]at hall;refine⟨none,qs (kd:=Per.d) zU h3 0,?_⟩;conv=>whnf
     refine qj (fun h4=>?_) (fun h4=>?_)
     ·have h4:n+s.w<0:=of_decide_eq_true h4
      rw[decide_eq_false (by omega),Bool.false_and]at hall;rw[hall];simp only[if_false,Bool.false_eq_true];conv=>whnf
      exact qc 0 rfl ⟨⟨rfl,rfl⟩,rfl⟩
     ·have h4:¬ n+s.w<0:=of_decide_eq_false h4
      rw[decide_eq_true (by omega),Bool.true_and]at hall;conv=>whnf
      refine qe (qb (by(try dsimp only);omega)) ?_;conv=>whnf
      exact⟨(),hall,(Wk.sub (by repeat' first|constructor|(simp only[List.length_map];rfl)|simp[PX.get]) ⟨(by first|rfl|(simp only[List.length_map];rfl)|simp[PX.get]),trivial⟩)⟩
    | some v2=>
     have e2:atM m s.b=v2:=by unfold atM;rw[h3];rfl
     rw[e2]at hall;obtain⟨iy,_,hy1,_⟩:=qD (kd:=Per.d) (vd:=qG) zU h3 0;refine⟨_,hy1,?_⟩;conv=>whnf
     refine qj (fun h4=>?_) (fun h4=>?_)
     ·have h4:n+s.w<v2:=of_decide_eq_true h4
      rw[decide_eq_false (by omega),Bool.false_and]at hall;rw[hall];simp only[if_false,Bool.false_eq_true];conv=>whnf
      exact qc 0 rfl ⟨⟨rfl,rfl⟩,rfl⟩
     ·have h4:¬ n+s.w<v2:=of_decide_eq_false h4
      rw[decide_eq_true (by omega),Bool.true_and]at hall;conv=>whnf
      refine qe (qb (by(try dsimp only);omega)) ?_;conv=>whnf
      exact⟨(),hall,(Wk.sub (by repeat' first|constructor|(simp only[List.length_map];rfl)|simp[PX.get]) ⟨(by first|rfl|(simp only[List.length_map];rfl)|simp[PX.get]),trivial⟩)⟩
  ·rintro _ hall
   have hall:qoL x m=true:=hall;rw[hall];simp only[if_true];conv=>whnf
   refine qj (fun h=>absurd h (by simp)) (fun _=>?_);conv=>whnf
   refine qc 1 (ds:=[.mv (pmD m),.bool true]) (qy (qhf rfl) rfl) ⟨⟨rfl,rfl⟩,rfl⟩
theorem qoS{x:LkS}(hR:LookR x):∀ (l:List zu) {y:PM×Bool} {B:Int},(∀ e∈l,e∈x.steps)->qny y.1 B->qny (l.foldl qgl y).1 (B+1100000*l.length)
 | [],y,B,_,h=>by simpa using h
 | s::r,y,B,hl,h=>by
  rw[List.foldl_cons];have:=qoS hR r (fun e he=>hl e (by simp[he])) (qrT h (hR.w s (hl s (by simp))));intro p v hv;have:=this p v hv;rw[List.length_cons];omega
theorem qjB{x:LkS}(hR:LookR x):∀ (k:Nat) {m:PM} {B:Int},qny m B->0<=B->qny (qbY x.steps k m) (B+100000000*k)
 | 0,m,B,h,_=>by rw[qbY];simpa using h
 | k+1,m,B,h,hB=>by
  have h1:=qoS hR x.steps (y:=(m,false)) (fun e he=>he) h;have hl:=hR.len;have h2:qny (qil x.steps m).1 (B+100000000):=fun p v hv=>by have:=h1 p v hv;omega
  rw[qbY];split
  ·intro p v hv
   have:=qjB hR k h2 (by omega) p v hv;omega
  ·intro p v hv
   have:=h2 p v hv;omega
theorem qvF{x:LkS}(hR:LookR x)(p:Per):qny (qcY x p) 4000000000:=by
 have h0:qny [(p,(0:Int))] 0:=fun q v hv=>by
  rw[zr]at hv;split at hv
  ·cases hv;simp
  ·cases hv
 have:=qjB hR (x.many+2).toNat h0 (Int.le_refl 0);have hm:=hR.many;intro q v hv;have:=this q v hv;omega
theorem qml{x:LkS}(hR:LookR x)(p q:Per) : -4000000000<=atM (qcY x p) q/\atM (qcY x p) q<=4000000000:=by
 unfold atM
 cases h:zr (qcY x p) q with
 | none=>simp
 | some v=>exact qvF hR p q v h
theorem qnA(m:PM)(q:Per):∃ r,qdG q.d (pmD m) 0=some r/\((r=none/\atM m q=0) \/ ∃ i,r=some (i,i64 (atM m q))):=by
 cases h:zr m q with
 | none=>exact⟨none,qs (kd:=Per.d) zU h 0,.inl ⟨rfl,by unfold atM;rw[h];rfl⟩⟩
 | some v=>
  obtain⟨ix,_,hx,_⟩:=qD (kd:=Per.d) (vd:=qG) zU h 0;exact⟨_,hx,.inr ⟨0+ix,by unfold atM;rw[h];rfl⟩⟩
theorem qzc(l:PLog)(x:LkS)(hR:LookR x)(p q:Per)(hp:qoL x (qcY x p)=true)(hq:qoL x (qcY x q)=true):FnV Tryz.prog 72 [qak l x,p.d,q.d] (zO x p q).d:=by
 refine qJ mixed qm Tryz.func72 rfl (ft:=qAa) 3 (by decide +kernel) (by rfl) fun {σ} Y st=>?_;conv=>whnf
 have h1:FnV Tryz.prog 69 [qak l x,q.d] (.tup [.mv (pmD (qcY x q)),.bool true]):=FnV.cast (fun {σ}=>qxw l x hR q) (by rw[hq];rfl);have h2:FnV Tryz.prog 69 [qak l x,p.d] (.tup [.mv (pmD (qcY x p)),.bool true]):=FnV.cast (fun {σ}=>qxw l x hR p) (by rw[hp];rfl);have hb:=qml hR p q;refine qk (h1) rfl rfl ?_;conv=>whnf
 refine qk (h2) rfl rfl ?_;conv=>whnf
 obtain⟨r1,hr1,hc1⟩:=qnA (qcY x p) q;refine⟨r1,hr1,?_⟩;rcases hc1 with⟨rfl,e1⟩|⟨i1,rfl⟩
 ·conv=>whnf
  refine qe (qb (by(try dsimp only);omega)) ?_;conv=>whnf
  obtain⟨r2,hr2,hc2⟩:=qnA (qcY x q) p;refine⟨r2,hr2,?_⟩;rcases hc2 with⟨rfl,e2⟩|⟨i2,rfl⟩
  ·have hd:(zO x p q).d = .agg [i64 (0-0),i64 0]:=by unfold zO;rw[e2,Int.zero_sub];rw[e1];rfl
   rw[hd];conv=>whnf
   exact qc 0 rfl ⟨⟨rfl,rfl⟩,rfl⟩
  ·have hd:(zO x p q).d = .agg [i64 (0-0),i64 (atM (qcY x q) p)]:=by unfold zO;rw[Int.zero_sub];rw[e1];rfl
   rw[hd];conv=>whnf
   exact qc 0 rfl ⟨⟨rfl,rfl⟩,rfl⟩
 ·conv=>whnf
  refine qe (qb (by(try dsimp only);omega)) ?_;conv=>whnf
  obtain⟨r2,hr2,hc2⟩:=qnA (qcY x q) p;refine⟨r2,hr2,?_⟩;rcases hc2 with⟨rfl,e2⟩|⟨i2,rfl⟩
  ·have hd:(zO x p q).d = .agg [i64 (0-atM (qcY x p) q),i64 0]:=by unfold zO;rw[e2,Int.zero_sub];rfl
   rw[hd];conv=>whnf
   exact qc 0 rfl ⟨⟨rfl,rfl⟩,rfl⟩
  ·have hd:(zO x p q).d = .agg [i64 (0-atM (qcY x p) q),i64 (atM (qcY x q) p)]:=by unfold zO;rw[Int.zero_sub];rfl
   rw[hd];conv=>whnf
   exact qc 0 rfl ⟨⟨rfl,rfl⟩,rfl⟩
def qeB(l:PLog)(i:Int):PBook:=(l.books[i.toNat]?).getD ⟨.empty,⟨0,0⟩,⟨0,0⟩,[]⟩
def qE(l:PLog):Int:=(qaQ l).2.2
def qrU(l:PLog):Bool×Int:=if qE l=0 then (jW l 0 [],0) else (false,qE l)
def qwQ(l:PLog)(book:Int):List Span:=(List.range (zn (qeB l book).ents+1)).map fun(n:Nat)=>zO (qX l 0 []) ⟨book,n⟩ .right
def qnB(l:PLog)(book:Int):List Span×Int:=
 if qE l=0 then
  if qcM book 0 ((l.books.length:Int)-1) then ([],4)
  else if jW l 0 [] then (qwQ l book,0) else ([],9)
 else ([],qE l)
def quU(l:PLog)(x:PAt):Bool:=!qcM x.book 0 ((l.books.length:Int)-1) && !qcM x.entry 0 (((qeB l x.book).ents.length:Int)-1)
def qcj(l:PLog)(xs:List PAt):Int:=if qE l=0 then (if xs.all (quU l) then 0 else 4) else qE l
def qkF(l:PLog)(xs:List PAt):Int:=if qcj l xs=0 then (if jW l 0 [] then 0 else 9) else qcj l xs
def quV(l:PLog)(x:PAt):Per:=qmc (qX l 0 []).pers x
def qtQ(l:PLog)(x:PAt):Span:=
 ⟨(qgk l x).shown-(zO (qX l 0 []) (quV l x) .right).hi,(qgk l x).shown-(zO (qX l 0 []) (quV l x) .right).lo⟩
def qkG(l:PLog)(x:PAt):Span×Int:=if qkF l [x]=0 then (qtQ l x,0) else (⟨0,0⟩,qkF l [x])
def qea(l:PLog)(a b:PAt):Span:=
 ⟨((qgk l b).shown-(qgk l a).shown)-(zO (qX l 0 []) (quV l b) (quV l a)).hi,((qgk l b).shown-(qgk l a).shown)-(zO (qX l 0 []) (quV l b) (quV l a)).lo⟩
def qrV(s:Span):Int:=if s=⟨0,0⟩ then 3 else if 0<s.lo then 1 else if s.hi<0 then 2 else 0
def qfD(l:PLog)(a b:PAt):Span×Int×Int:=if qkF l [a,b]=0 then (qea l a b,qrV (qea l a b),0) else (⟨0,0⟩,0,qkF l [a,b])
def qvG(l:PLog)(x:PAt)(i k:Nat)(y:PEnt):Bool:=
 !decide ((i:Int)=x.book)&&(decide (y.kind=1)&&(decide (y.word=(qgk l x).word)&&(decide ((qea l x ⟨i,k⟩).lo<=l.near)&&decide (-l.near<=(qea l x ⟨i,k⟩).hi))))
def qpU(l:PLog)(x:PAt)(i:Nat):Nat->List PEnt->List PAt
 | _,[]=>[]
 | k,y::r=>if qvG l x i k y then ⟨i,k⟩::qpU l x i (k+1) r else qpU l x i (k+1) r
def qiq(l:PLog)(x:PAt):Nat->List PBook->List PAt
 | _,[]=>[]
 | i,b::r=>qpU l x i 0 b.ents++qiq l x (i+1) r
def qtR(l:PLog)(x:PAt):List PAt×Int:=
 if qcj l [x]=0 then
  if (qgk l x).kind=1 then (if jW l 0 [] then (qiq l x 0 l.books,0) else ([],9)) else ([],2)
 else ([],qcj l [x])
def jQ(does:Int->Bool):Nat->Int->Int->Int
 | 0,_,hi=>hi
 | k+1,lo,hi=>if hi-lo>1 then (if does ((lo+hi)/2) then jQ does k lo ((lo+hi)/2) else jQ does k ((lo+hi)/2) hi) else hi
def qca(l:PLog):Int×Int:=
 if qE l=0 then (if jW l 1048576 [] then (jQ (fun w=>jW l w []) 40 (-1) 1048576,0) else (0,9)) else (0,qE l)
def qfV(b:PBook)(n:Int):Nat:=(b.ents.filter fun y=>decide (y.kind=3/\y.number=n)).length
def inN(l:PLog)(n:Int):Nat:=(l.books.filter fun b=>decide (0<qfV b n)).length
def qtS(l:PLog)(n:Int):Nat:=(l.books.map fun b=>qfV b n).foldl max 0
def jk(l:PLog):List Int:=((List.range' 0 100).map fun(n:Nat)=>(n:Int)).filter fun n=>decide (1<inN l n)
def jR(of:List Int):Nat->List Int->Nat->List (List Int)
 | 0,p,_=>[p]
 | left+1,p,start=>(List.range' start (of.length-left-start)).flatMap fun(i:Nat)=>jR of left (p ++ [(of[i]?).getD 0]) (i+1)
def qir(of:List Int):List (List Int):=(List.range' 0 (of.length+1)).flatMap fun(n:Nat)=>jR of n [] 0
def qeb(l:PLog):List Int×Int:=
 if qE l=0 then (match (qir (jk l)).find? (jW l 0) with
  | some c=>(c,0)
  | none=>([],9)) else ([],qE l)
def qcN(l:PLog):List PEnt:=(l.books.flatMap PBook.ents).filter fun y=>decide (y.kind=3)
def qbo:List (Int×ByteArray)->List PEnt->Bool
 | _,[]=>false
 | m,y::r=>match zr m y.number with
  | some w=>if w=y.word then qbo (jJ m y.number y.word) r else true
  | none=>qbo (jJ m y.number y.word) r
def qbp(l:PLog):Int:=(qcN l).foldl (fun m y=>max m y.number) 0
def qnC(l:PLog):List Int:=((List.range' 1 (qbp l).toNat).map fun(n:Nat)=>(n:Int)).filter fun n=>decide (inN l n=0)
def qrW(l:PLog):List Int:=((List.range' 1 (qbp l).toNat).map fun(n:Nat)=>(n:Int)).filter fun n=>decide (inN l n≠0)&&decide (1<qtS l n)
def qpV(l:PLog):List Int×List Int×Int:=
 if qE l=0 then (if qbo [] (qcN l) then ([],[],5) else (qnC l,qrW l,0)) else ([],[],qE l)
theorem qoT:∀ {r:List PEnt} {k:Nat},(∀ x∈r,qmP x=0)->qeu r k=(0,0)
 | [],_,_=>rfl
 | y::r,k,h=>by rw[qeu,if_pos (h y (List.mem_cons_self ..))];exact qoT fun x hx=>h x (List.mem_cons_of_mem _ hx)
theorem qoU:∀ {r:List PEnt} {k:Nat},(qeu r k).2=0 -> ∀ x∈r,qmP x=0
 | [],_,_,x,hx=>by cases hx
 | y::r,k,h,x,hx=>by
  rw[qeu]at h;split at h
  ·rename_i h1
   rcases List.mem_cons.1 hx with rfl|hx
   ·exact h1
   ·exact qoU h x hx
  ·rename_i h1;exact absurd h h1
theorem qjC:∀ {bs pre:List PBook} {i:Nat},(qbB pre bs i).2.2=0 ↔ ∀ k b,bs[k]?=some b->qip (pre++bs.take k) b=0 /\ ∀ x∈b.ents,qmP x=0
 | [],pre,i=>by simp[qbB]
 | c::r,pre,i=>by
  rw[qbB];by_cases h1:qip pre c=0
  ·rw[if_pos h1]
   by_cases h2:(qeu c.ents 0).2=0
   ·rw[if_pos h2,qjC]
    constructor
    ·intro h k b hb
     cases k with
     | zero=>
      rw[List.getElem?_cons_zero]at hb;cases hb;rw[List.take_zero,List.append_nil];exact⟨h1,qoU h2⟩
     | succ k=>
      rw[List.getElem?_cons_succ]at hb;have:=h k b hb;rw[List.take_succ_cons]
      rwa [List.append_assoc]at this
    ·intro h k b hb
     have:=h (k+1) b (by rw[List.getElem?_cons_succ];exact hb);rw[List.take_succ_cons]at this
     rwa [List.append_assoc]
   ·rw[if_neg h2]
    constructor
    ·intro h;exact absurd h h2
    ·intro h
     have:=(h 0 c rfl).2;exact absurd (by rw[qoT this]) h2
  ·rw[if_neg h1]
   constructor
   ·intro h;exact absurd h h1
   ·intro h
    have:=(h 0 c rfl).1;rw[List.take_zero,List.append_nil]at this;exact absurd this h1
theorem qrX{n lo hi:Int}:inB n lo hi=true↔lo<=n/\n<=hi:=by
 unfold inB;rw[Bool.and_eq_true,decide_eq_true_eq,decide_eq_true_eq]
theorem zV{n lo hi:Int}:qcM n lo hi=false↔lo<=n/\n<=hi:=by
 unfold qcM;rw[Bool.not_eq_false',qrX]
theorem qfE{l:PLog}:qE l=0↔(0<=l.near/\l.near<=60)/\(1<=l.books.length/\l.books.length<=3) /\ ∀ k b,l.books[k]?=some b->qip (l.books.take k) b=0 /\ ∀ x∈b.ents,qmP x=0:=by
 unfold qE qaQ
 cases h1:qcM l.near 0 60 with
 | true=>
  simp only[if_true];constructor
  ·intro h;cases h
  ·intro h
   have:=zV.2 h.1;rw[h1]at this;cases this
 | false=>
  simp only[Bool.false_eq_true,if_false];have h1:=zV.1 h1
  cases h2:qcM l.books.length 1 3 with
  | true=>
   simp only[if_true];constructor
   ·intro h;cases h
   ·intro h
    have:=zV (n:=l.books.length) (lo:=1) (hi:=3) |>.2 (by omega)
    rw[h2]at this;cases this
  | false=>
   simp only[Bool.false_eq_true,if_false];have h2:=zV.1 h2;rw[qjC];simp only[List.nil_append];exact⟨fun h=>⟨h1,by omega,h⟩,fun h=>h.2.2⟩
theorem qcb{l:PLog}(h:qE l=0):qaQ l=(0,0,0):=by
 have key:∀ {bs pre:List PBook} {i:Nat},(qbB pre bs i).2.2=0->qbB pre bs i=(0,0,0):=by
  intro bs
  induction bs with
  | nil=>intros;rfl
  | cons c r ih=>
   intro pre i h;rw[qbB]at h ⊢;by_cases h1:qip pre c=0
   ·rw[if_pos h1]at h ⊢
    by_cases h2:(qeu c.ents 0).2=0
    ·rw[if_pos h2]at h ⊢
     exact ih h
    ·rw[if_neg h2]at h;exact absurd h h2
   ·rw[if_neg h1]at h;exact absurd h h1
 have hi:=qfE.1 h;have h1:=zV.2 hi.1;have h2:=zV (n:=l.books.length) (lo:=1) (hi:=3) |>.2 (by omega)
 unfold qE qaQ at h;unfold qaQ;rw[h1,h2]at h ⊢;simp only[Bool.false_eq_true,if_false]at h ⊢;exact key h
structure EntR(x:PEnt):Prop where
 shown:0<=x.shown/\x.shown<=20000
 kind:1<=x.kind/\x.kind<=3
 number:0<=x.number/\x.number<=99
 pass:x.kind=1->qaO x.word=true/\x.number=0
 set:x.kind=2->x.word = .empty/\x.number=0
 rep:x.kind=3->qaO x.word=true/\1<=x.number
theorem qoV{x:PEnt}:qmP x=0↔EntR x:=by
 unfold qmP
 cases h0:qcM x.shown 0 20000 with
 | true=>
  simp only[if_true];refine⟨fun h=>(by cases h),fun h=>?_⟩;have:=zV.2 h.shown;rw[h0]at this;cases this
 | false=>
  have h0:=zV.1 h0;simp only[Bool.false_eq_true,if_false];by_cases h1:x.kind=1
  ·rw[if_pos h1]
   constructor
   ·intro h
    split at h;case isFalse=>cases h
    rename_i h2;rw[Bool.and_eq_true,decide_eq_true_eq]at h2;exact⟨h0,by omega,by omega,fun _=>h2,fun h=>by omega,fun h=>by omega⟩
   ·intro h
    rw[if_pos (by rw[(h.pass h1).1,decide_eq_true (h.pass h1).2];rfl)]
  ·rw[if_neg h1]
   by_cases h2:x.kind=2
   ·rw[if_pos h2]
    constructor
    ·intro h
     split at h;case isFalse=>cases h
     rename_i h3;rw[Bool.and_eq_true,decide_eq_true_eq,decide_eq_true_eq]at h3;exact⟨h0,by omega,by omega,fun h=>by omega,fun _=>h3,fun h=>by omega⟩
    ·intro h
     rw[if_pos (by rw[decide_eq_true (h.set h2).1,decide_eq_true (h.set h2).2];rfl)]
   ·rw[if_neg h2]
    by_cases h3:x.kind=3
    ·rw[if_pos h3]
     constructor
     ·intro h
      split at h;case isFalse=>cases h
      rename_i h4;rw[Bool.and_eq_true,Bool.not_eq_true',zV]at h4;exact⟨h0,by omega,by omega,fun h=>by omega,fun h=>by omega,fun _=>⟨h4.1,h4.2.1⟩⟩
     ·intro h
      have:=zV (n:=x.number) (lo:=1) (hi:=99) |>.2 ⟨(h.rep h3).2,h.number.2⟩
      rw[if_pos (by rw[(h.rep h3).1,this];rfl)]
    ·rw[if_neg h3]
     exact⟨fun h=>(by cases h),fun h=>by have:=h.kind;omega⟩
structure HeadR(pre:List PBook)(b:PBook):Prop where
 name:qaO b.name=true
 fresh:∀ x∈pre,x.name≠b.name
 off : -720<=b.off.lo/\b.off.lo<=b.off.hi/\b.off.hi<=720
 set : -720<=b.set.lo/\b.set.lo<=b.set.hi/\b.set.hi<=720
 ents:b.ents.length<=8
theorem qis{pre:List PBook}{b:PBook}:qip pre b=0↔HeadR pre b:=by
 unfold qip
 cases h1:qaO b.name with
 | false=>
  simp only[Bool.false_eq_true,if_false];exact⟨fun h=>(by cases h),fun h=>by rw[h.name]at h1;cases h1⟩
 | true=>
  simp only[if_true]
  cases h2:pre.any fun x=>decide (x.name=b.name) with
  | true=>
   simp only[if_true];refine⟨fun h=>(by cases h),fun h=>?_⟩;rw[List.any_eq_true]at h2;obtain⟨x,hx,he⟩:=h2;exact absurd (of_decide_eq_true he) (h.fresh x hx)
  | false=>
   simp only[Bool.false_eq_true,if_false];have hfr:∀ x∈pre,x.name≠b.name:=fun x hx he=>by
    rw[List.any_eq_false]at h2;exact h2 x hx (decide_eq_true he)
   cases h3:qcM b.off.lo (-720) 720||qcM b.off.hi (-720) 720||qcM b.set.lo (-720) 720||qcM b.set.hi (-720) 720 with
   | true=>
    simp only[if_true];refine⟨fun h=>(by cases h),fun h=>?_⟩;have ho:=h.off;have hs:=h.set;rw[zV.2 (by omega),zV.2 (by omega),zV.2 (by omega),zV.2 (by omega)]at h3;cases h3
   | false=>
    simp only[Bool.or_eq_false_iff,zV]at h3;simp only[Bool.false_eq_true,if_false]
    cases h4:decide (b.off.lo>b.off.hi)||decide (b.set.lo>b.set.hi) with
    | true=>
     simp only[if_true];refine⟨fun h=>(by cases h),fun h=>?_⟩;have ho:=h.off;have hs:=h.set;rw[decide_eq_false (by omega),decide_eq_false (by omega)]at h4;cases h4
    | false=>
     simp only[Bool.or_eq_false_iff,decide_eq_false_iff_not]at h4;simp only[Bool.false_eq_true,if_false];split
     ·rename_i h5
      exact⟨fun h=>(by cases h),fun h=>by have:=h.ents;omega⟩
     ·exact⟨fun _=>⟨h1,hfr,by omega,by omega,by omega⟩,fun _=>rfl⟩
theorem zK{l:PLog}(h:qE l=0):LogR l:=by
 obtain⟨h1,h2,h3⟩:=qfE.1 h;refine⟨h1,h2,fun b hb=>?_⟩;obtain⟨k,hk⟩:=List.getElem?_of_mem hb;obtain⟨h4,h5⟩:=h3 k b hk;have h4:=qis.1 h4;exact⟨h4.off,h4.set,h4.ents,fun x hx=>by have:=qoV.1 (h5 x hx);exact⟨this.shown,this.kind,this.number⟩⟩
theorem qjD{l:PLog}(hR:LogR l){w:Int}(hw:0<=w/\w<=1048576)(conf:List Int):LookR (qX l w conf):=by
 refine⟨qtO hR w conf,fun e he=>quT hR hw (qoQ e he),?_⟩;have h:=qkD (N:=qY l) (l:=l) (wider:=w) (conf:=conf) (by simp[qY]) l.books (i:=0) (done:=[]) (s:=⟨[],0,[],[]⟩) ⟨fun e he=>(by cases he),fun x hx=>(by cases hx),rfl,fun p hp=>(by cases hp)⟩ (fun p hp=>List.mem_cons_of_mem _ hp);have hm:(qX l w conf).many=((qaU 0 l.books).length:Nat):=by have:=h.many;rwa [List.nil_append]at this
 rw[hm,qgm];have key:∀ bs:List PBook,(∀ b∈bs,BookR b)->zF bs<=9*bs.length:=by
  intro bs
  induction bs with
  | nil=>intro _;exact Nat.le_refl _
  | cons b r ih=>
   intro h;have:=ih fun c hc=>h c (List.mem_cons_of_mem _ hc);have h2:=qbe b;have h3:=(h b (List.mem_cons_self ..)).ents;rw[qbM,List.length_cons];omega
 have:=key l.books hR.book;have:=hR.books;omega
theorem qdt{l:PLog}{x:PAt}:quU l x=true ↔ ∃ (i k:Nat) (b:PBook) (y:PEnt),x=⟨i,k⟩/\At l i k b y:=by
 unfold quU;rw[Bool.and_eq_true,Bool.not_eq_true',Bool.not_eq_true',zV,zV];constructor
 ·rintro ⟨⟨h1,h2⟩,h3,h4⟩
  obtain⟨b,hb⟩:∃ b,l.books[x.book.toNat]?=some b:=⟨_,List.getElem?_eq_getElem (by omega)⟩;have hba:qeB l x.book=b:=by unfold qeB;rw[hb];rfl
  rw[hba]at h4;obtain⟨y,hy⟩:∃ y,b.ents[x.entry.toNat]?=some y:=⟨_,List.getElem?_eq_getElem (by omega)⟩;refine⟨x.book.toNat,x.entry.toNat,b,y,?_,hb,hy⟩;cases x;simp only[PAt.mk.injEq];simp only at h1 h3;omega
 ·rintro ⟨i,k,b,y,rfl,h⟩
  have h1:=(List.getElem?_eq_some_iff.1 h.book).1;have h2:=(List.getElem?_eq_some_iff.1 h.ent).1;have hba:qeB l ((⟨i,k⟩:PAt).book)=b:=by unfold qeB;simp only[Int.toNat_natCast,h.book,Option.getD_some]
  rw[hba];simp only;omega
theorem qeV{l:PLog}{i k:Nat}{b:PBook}{y:PEnt}(h:At l i k b y):quV l ⟨i,k⟩=⟨i,qL b k⟩:=
 qaP h ((qfB l 0 []).pers.2 i b h.book (qrQ h))
theorem qoW{l:PLog}{i n:Nat}{b:PBook}(h:l.books[i]?=some b)(hn:n<=zn b.ents):(⟨i,n⟩:Per)∈qY l:=List.mem_of_getElem? (qaj h hn)
theorem qit{l:PLog}{x:PAt}(h0:quU l x=true):quV l x∈qY l:=by
 obtain⟨i,k,b,y,rfl,h⟩:=qdt.1 h0;rw[qeV h];exact qoW h.book (jf b k)
theorem qjE(l:PLog):Per.right∈qY l:=List.mem_cons_self ..
theorem qkH{l:PLog}{w:Int}{conf:List Int}(hf:jW l w conf=true){p:Per}(hp:p∈qY l):qoL (qX l w conf) (qcY (qX l w conf) p)=true:=by
 have hs:=qfA l w conf;exact(hs.fit hp).2 ((hs.fit hs.right).1 hf)
end Go.PX
