import Derived.Test.YtpocldjdlookjaaPxF
import Derived.RangeFuncLeaves
import Derived.RangeFuncRecord
set_option linter.all false
namespace Go.PX
open Go.RowKit
def pH(f:V->V)(R:Nat->Nat->Prop):Prop:=∀ v x y,fk v=some y->fD (f v) x->R y x
mutual
theorem lB{f:V->V}{R:Nat->Nat->Prop}(hf:pH f R):∀ (v:V) (x:Nat),fD (az f v) x -> ∃ y,fD v y/\R y x
 | .d _,_,h=>h.elim
 | .agg cs,x,h=>gm hf cs x h
 | .tup cs,x,h=>gm hf cs x h
 | .clo _ cs,x,h=>gm hf cs x h
 | .ptr i off,x,h=>⟨i,rfl,hf _ x i rfl h⟩
 | .ep i sz j off,x,h=>⟨i,rfl,hf _ x i rfl h⟩
 | .sl i sz off len,x,h=>⟨i,rfl,hf _ x i rfl h⟩
 | .mp i,x,h=>⟨i,rfl,hf _ x i rfl h⟩
 | .it i,x,h=>⟨i,rfl,hf _ x i rfl h⟩
 | .yld,_,h=>h.elim
 | .unk,_,h=>h.elim
theorem gm{f:V->V}{R:Nat->Nat->Prop}(hf:pH f R):∀ (vs:List V) (x:Nat),bF (ca f vs) x -> ∃ y,bF vs y/\R y x
 | [],_,h=>h.elim
 | v::r,x,h=>by
  rcases h with h|h
  ·obtain⟨y,h1,h2⟩:=lB hf v x h;exact⟨y,.inl h1,h2⟩
  ·obtain⟨y,h1,h2⟩:=gm hf r x h;exact⟨y,.inr h1,h2⟩
end
theorem pf{f:V->V}{R:Nat->Nat->Prop}(hf:pH f R)(o:Obj)(x:Nat)(h:jg (Obj.az f o) x):∃ y,jg o y/\R y x:=by
 cases o with
 | box c=>cases c with
  | dd l=>exact(ef l x h).elim
  | vv l=>exact gm hf l x h
 | arr sz es=>cases es with
  | dd l=>
   exfalso;have h:bF (aO l).flatten x:=h;rw[cI]at h;exact ef _ x h
  | vv l=>
   have h:bF (a7 f l).flatten x:=h;rw[eX]at h;exact gm hf l.flatten x h
 | map cc=>exact h.elim
 | iter s n=>exact h.elim
 | buf t s=>exact h.elim
 | tb t l=>exact gm hf l x h
 | mit v n l u=>exact lB hf v x h
theorem sZ(k:Nat):pH (aQ k) fun y x=>x=y/\x≠k:=by
 intro v x y hy h;simp only[aQ,hy]at h;split at h
 ·exact h.elim
 ·rename_i hk
  have Tn:x=y:=by
   cases v<;>simp only[fk,Option.some.injEq]at hy<;>first|(cases hy;done)|skip
   all_goals (subst hy;exact(show _=_ from h).symm)
  subst Tn;exact⟨rfl,by rintro rfl;simp at hk⟩
theorem BT(i j:Nat):pH (cK i j) fun y x=>(y=i/\x=j)\/(y≠i/\x=y):=by
 intro v x y hy h;cases v<;>simp only[fk,Option.some.injEq]at hy<;>first|(cases hy;done)|skip
 all_goals
  subst hy;simp only[cK]at h;split at h
  ·rename_i hk
   exact .inl ⟨Nat.eq_of_beq_eq_true hk,(show _=_ from h).symm⟩
  ·rename_i hk
   exact .inr ⟨by rintro rfl;simp at hk,(show _=_ from h).symm⟩
mutual
theorem a6.move{yv:Option Nat}{L L':Loc}{F:Nat->Nat}{w:World}{i j:Nat}(hj:L'.ρ j=L.ρ i/\L'.κ j=L.κ i)(hx:∀ x,x≠j->L'.ρ x=L.ρ x/\L'.κ x=L.κ x):∀ (v:V) (x:Value),¬ fD v j->a6 yv L F w v x->a6 yv L' F w (az (cK i j) v) x
 | .d v,_,_,hr=>hr
 | .agg cs,_,hn,hr=>by
  obtain⟨l,rfl,hl⟩:=hr;exact⟨l,rfl,aq.move hj hx cs _ hn hl⟩
 | .tup cs,_,hn,hr=>by
  obtain⟨l,rfl,hl⟩:=hr;exact⟨l,rfl,aq.move hj hx cs _ hn hl⟩
 | .ptr id off,x,hn,hr=>by
  have hr:x = .pointer (some ⟨L.ρ id,off,none⟩):=hr;have dZ:id≠j:=hn;simp only[az,cK];cases h:Nat.beq id i
  ·show x = .pointer (some ⟨L'.ρ id,off,none⟩)
   rw[(hx id dZ).1];exact hr
  ·have:=Nat.eq_of_beq_eq_true h;subst this
   show x = .pointer (some ⟨L'.ρ j,off,none⟩);rw[hj.1];exact hr
 | .ep id sz k off,x,hn,hr=>by
  have hr:x = .pointer (some ⟨L.ρ id,k*sz+off,none⟩):=hr;have dZ:id≠j:=hn;simp only[az,cK];cases h:Nat.beq id i
  ·show x = .pointer (some ⟨L'.ρ id,k*sz+off,none⟩)
   rw[(hx id dZ).1];exact hr
  ·have:=Nat.eq_of_beq_eq_true h;subst this
   show x = .pointer (some ⟨L'.ρ j,k*sz+off,none⟩);rw[hj.1];exact hr
 | .sl id sz off len,x,hn,hr=>by
  obtain⟨a,cap,rfl,hl,hs,hc⟩:=hr;have dZ:id≠j:=hn;simp only[az,cK];cases h:Nat.beq id i
  ·refine⟨a,cap,rfl,hl,hs,?_⟩
   rw[(hx id dZ).1,(hx id dZ).2];exact hc
  ·have:=Nat.eq_of_beq_eq_true h;subst this
   refine⟨a,cap,rfl,hl,hs,?_⟩;rw[hj.1,hj.2];exact hc
 | .mp id,x,hn,hr=>by
  have hr:x = .map (some (L.ρ id)):=hr;have dZ:id≠j:=hn;simp only[az,cK];cases h:Nat.beq id i
  ·show x = .map (some (L'.ρ id))
   rw[(hx id dZ).1];exact hr
  ·have:=Nat.eq_of_beq_eq_true h;subst this
   show x = .map (some (L'.ρ j));rw[hj.1];exact hr
 | .it id,x,hn,hr=>by
  have hr:x = .pointer (some ⟨L.ρ id,0,none⟩):=hr;have dZ:id≠j:=hn;simp only[az,cK];cases h:Nat.beq id i
  ·show x = .pointer (some ⟨L'.ρ id,0,none⟩)
   rw[(hx id dZ).1];exact hr
  ·have:=Nat.eq_of_beq_eq_true h;subst this
   show x = .pointer (some ⟨L'.ρ j,0,none⟩);rw[hj.1];exact hr
 | .clo f cs,_,hn,hr=>by
  obtain⟨l,rfl,hl⟩:=hr;exact⟨l,rfl,aq.move hj hx cs _ hn hl⟩
 | .yld,_,_,hr=>hr
 | .unk,_,_,hr=>hr
theorem aq.move{yv:Option Nat}{L L':Loc}{F:Nat->Nat}{w:World}{i j:Nat}(hj:L'.ρ j=L.ρ i/\L'.κ j=L.κ i)(hx:∀ x,x≠j->L'.ρ x=L.ρ x/\L'.κ x=L.κ x):∀ (vs:List V) (l:List Value),¬ bF vs j->aq yv L F w vs l->aq yv L' F w (ca (cK i j) vs) l
 | [],_,_,hr=>hr
 | v::r,_,hn,hr=>by
  simp only[bF,not_or]at hn;obtain⟨x,l',rfl,hv,hl⟩:=hr;exact⟨x,l',rfl,a6.move hj hx v x hn.1 hv,aq.move hj hx r l' hn.2 hl⟩
end
section
variable {yv : Option Nat} {L L' : Loc} {F : Nat -> Nat} {w : World} {i j : Nat}
theorem bG.move(hj:L'.ρ j=L.ρ i/\L'.κ j=L.κ i)(hx:∀ x,x≠j->L'.ρ x=L.ρ x/\L'.κ x=L.κ x){id id':Nat}(dZ:L'.ρ id'=L.ρ id/\L'.κ id'=L.κ id)(o:Obj)(hn:¬ jg o j)
  (h:bG yv L F w id o):bG yv L' F w id' (Obj.az (cK i j) o):=by
 cases o with
 | box c=>
  cases c with
  | dd l=>
   obtain⟨c,T,hc,hr⟩:=h;exact⟨c,T,by rw[dZ.1];exact hc,aq.inj.2 (aq.inj.1 hr)⟩
  | vv l=>
   obtain⟨c,T,hc,hr⟩:=h;exact⟨c,T,by rw[dZ.1];exact hc,aq.move hj hx _ _ hn hr⟩
 | arr sz es=>
  cases es with
  | dd l=>
   obtain⟨hs,hl,h⟩:=h;refine⟨hs,hl,?_⟩;rcases h with⟨h,hk⟩|⟨c,T,hc,hk,jz,hr⟩
   ·exact .inl ⟨h,by rw[dZ.2];exact hk⟩
   ·refine .inr ⟨c,T,by rw[dZ.1];exact hc,by rw[dZ.2];exact hk,jz,?_⟩
    have hr:aq yv L F w (aO l).flatten _:=hr;show aq yv L' F w (aO l).flatten _;rw[cI]at hr ⊢;exact aq.inj.2 (aq.inj.1 hr)
  | vv l=>
   obtain⟨hs,hl,h⟩:=h;refine⟨hs,?_,?_⟩
   ·intro e he
    obtain⟨e0,h0,rfl⟩:=rV _ _ _ he;rw[iC];exact hl e0 h0
   ·rcases h with⟨h,hk⟩|⟨c,T,hc,hk,jz,hr⟩
    ·left
     have h:l = []:=h;subst h;exact⟨rfl,by rw[dZ.2];exact hk⟩
    ·right
     refine⟨c,T,by rw[dZ.1];exact hc,by rw[dZ.2];exact hk,?_,?_⟩
     ·show(a7 _ l).length*sz<=_
      rw[fA];exact jz
     ·show aq yv L' F w (a7 _ l).flatten (c.toList.take ((a7 _ l).length*sz))
      rw[fA,eX];exact aq.move hj hx _ _ hn hr
 | map cc=>obtain⟨en,c,hc,hr⟩:=h;exact⟨en,c,by rw[dZ.1];exact hc,hr⟩
 | iter s n=>
  show w.heap[L'.ρ id']?=_;rw[dZ.1];exact h
 | buf t s=>
  obtain⟨c,h1,h2,h3⟩:=h;exact⟨c,by rw[dZ.1];exact h1,by rw[dZ.2];exact h2,h3⟩
 | tb t l=>
  obtain⟨c,hc,hr⟩:=h;exact⟨c,by rw[dZ.1];exact hc,aq.move hj hx _ _ hn hr⟩
 | mit v n l u=>
  obtain⟨r,seen,h1,h2,h3⟩:=h;exact⟨r,seen,a6.move hj hx _ _ hn h1,by rw[dZ.1];exact h2,h3⟩
theorem lN{f:V->V}{id id':Nat}(hk:L'.κ id'=L.κ id)(o:Obj):aN L' id' (Obj.az f o)↔aN L id o:=by
 cases o with
 | box c=>cases c<;>exact Iff.rfl
 | arr sz es=>cases es<;>simp[Obj.az,aN,hk]
 | map cc=>exact Iff.rfl
 | iter s n=>exact Iff.rfl
 | buf t s=>exact Iff.rfl
 | tb t l=>exact Iff.rfl
 | mit v n l u=>exact Iff.rfl
theorem nW(h:av)(hj:get h j=none)(x:Nat):get (kA i j h) x=if x=j then (get h i).map (Obj.az (cK i j)) else if x=i then none else (get h x).map (Obj.az (cK i j)):=by
 induction h with
 | nil=>simp[kA,get]
 | cons kv r ih=>
  obtain⟨k,o⟩:=kv;have yB:k≠j:=by rintro rfl;simp[get]at hj
  have Pu:Nat.beq k j=false:=by rw[Bool.eq_false_iff];exact fun e=>yB (Nat.eq_of_beq_eq_true e)
  have yA:get r j=none:=by simpa[get,Pu]using hj
  simp only[kA]
  cases hk:Nat.beq k i with
  | true=>
   have:=Nat.eq_of_beq_eq_true hk;subst this;simp only[get];by_cases hx:x=j
   ·subst hx;simp
   ·have SK:Nat.beq j x=false:=by rw[Bool.eq_false_iff];exact fun e=>hx (Nat.eq_of_beq_eq_true e).symm
    simp only[SK,ih yA,hx,if_false];by_cases LZ:x=k
    ·subst LZ;simp
    ·have:Nat.beq k x=false:=by rw[Bool.eq_false_iff];exact fun e=>LZ (Nat.eq_of_beq_eq_true e).symm
     simp[LZ,this]
  | false=>
   have FP:k≠i:=by rintro rfl;simp at hk
   simp only[get]
   cases xm:Nat.beq k x with
   | true=>
    have:=Nat.eq_of_beq_eq_true xm;subst this;simp[yB,FP]
   | false=>simp only[ih yA,hk]
end
section
variable {σ : Type} {cx : Cx σ} {r : Option Nat} {m : List Nat} {L : Loc} {F : Nat -> Nat} {a : Act} {w : World} {e : Env} {h : av} {s : σ}
theorem Good.kill(hh:Good cx r m L F ⟨e,h,s⟩ a w)(d:Nat):Good cx r m L F ⟨cn (az (aQ d)) e,cn (Obj.az (aQ d)) h,s⟩ a w:=by
 have hg:∀ i o',get (cn (Obj.az (aQ d)) h) i=some o' -> ∃ o0,get h i=some o0/\o'=Obj.az (aQ d) o0:=by
  intro i o' hi;rw[bl]at hi
  cases h0:get h i with
  | none=>simp[h0]at hi
  | some o0=>simp[h0]at hi;exact⟨o0,rfl,hi.symm⟩
 refine⟨⟨hh.heap.hg,hh.heap.iW,hh.heap.fresh,?_,?_,?_⟩,?_,hh.sI,hh.oe,hh.uy,hh.lk,hh.lG,hh.sD⟩
 ·intro i o' hi
  obtain⟨o0,h0,rfl⟩:=hg i o' hi;exact bG.kill d i o0 (hh.heap.obj i o0 h0)
 ·intro i o' hi hb
  obtain⟨o0,h0,rfl⟩:=hg i o' hi;exact hh.heap.own i o0 h0 ((dA L d i o0).1 hb)
 ·intro i j o' p hi hj kj gJ he
  obtain⟨o0,h0,rfl⟩:=hg i o' hi;obtain⟨p0,xV,rfl⟩:=hg j p hj;exact hh.heap.inj i j o0 p0 h0 xV ((dA L d i o0).1 kj) ((dA L d j p0).1 gJ) he
 ·intro t v ht
  simp only[bl]at ht
  cases h0:get e t with
  | none=>simp[h0]at ht
  | some v0=>
   simp[h0]at ht;subst ht;obtain⟨x,hx,hr⟩:=hh.env t v0 h0;exact⟨x,hx,a6.kill d v0 x hr⟩
theorem Good.move(hh:Good cx r m L F ⟨e,h,s⟩ a w){i j:Nat}(S4:¬ pinned j)(jN:i≠j)(hu:ot ⟨get e,get h⟩ j) :
  Good cx r m ⟨fun x=>if x=j then L.ρ i else L.ρ x,fun x=>if x=j then L.κ i else L.κ x⟩ F ⟨cn (az (cK i j)) e,kA i j h,s⟩ a w:=by
 have hj:((⟨fun x=>if x=j then L.ρ i else L.ρ x,fun x=>if x=j then L.κ i else L.κ x⟩:Loc).ρ j=L.ρ i/\(⟨fun x=>if x=j then L.ρ i else L.ρ x,fun x=>if x=j then L.κ i else L.κ x⟩:Loc).κ j=L.κ i):=by simp
 have hx:∀ x,x≠j->((⟨fun x=>if x=j then L.ρ i else L.ρ x,fun x=>if x=j then L.κ i else L.κ x⟩:Loc).ρ x=L.ρ x/\(⟨fun x=>if x=j then L.ρ i else L.ρ x,fun x=>if x=j then L.κ i else L.κ x⟩:Loc).κ x=L.κ x):=by
  intro x hx;simp[hx]
 generalize (⟨fun x=>if x=j then L.ρ i else L.ρ x,fun x=>if x=j then L.κ i else L.κ x⟩:Loc)=L' at hj hx ⊢;have hg:∀ x o',get (kA i j h) x=some o' -> ∃ y o0,get h y=some o0/\o'=Obj.az (cK i j) o0/\(L'.ρ x=L.ρ y/\L'.κ x=L.κ y)/\((x=j/\y=i)\/(x≠j/\x≠i/\y=x)):=by
  intro x o' hi;rw[nW h hu.none]at hi;split at hi
  ·rename_i e1;subst e1
   cases h0:get h i with
   | none=>simp[h0]at hi
   | some o0=>simp[h0]at hi;exact⟨i,o0,h0,hi.symm,hj,.inl ⟨rfl,rfl⟩⟩
  ·rename_i e1
   split at hi
   ·cases hi
   ·rename_i e2
    cases h0:get h x with
    | none=>simp[h0]at hi
    | some o0=>simp[h0]at hi;exact⟨x,o0,h0,hi.symm,hx x e1,.inr ⟨e1,e2,rfl⟩⟩
 refine⟨⟨hh.heap.hg,hh.heap.iW,hh.heap.fresh,?_,?_,?_⟩,?_,hh.sI,hh.oe,hh.uy,hh.lk,fun x hp=>by
  have FX:x≠j:=by rintro rfl;exact S4 hp
  rw[(hx x FX).1,(hx x FX).2];exact hh.lG x hp,hh.sD⟩
 ·intro x o' hi
  obtain⟨y,o0,h0,rfl,hl,_⟩:=hg x o' hi;exact bG.move hj hx hl o0 (hu.heap y o0 h0) (hh.heap.obj y o0 h0)
 ·intro x o' hi hb
  obtain⟨y,o0,h0,rfl,hl,_⟩:=hg x o' hi;rw[hl.1];exact hh.heap.own y o0 h0 ((lN hl.2 o0).1 hb)
 ·intro x x' o' p hi yA kj gJ he
  obtain⟨y,o0,h0,rfl,hl,hy⟩:=hg x o' hi;obtain⟨z,p0,xV,rfl,jz,hz⟩:=hg x' p yA;rw[hl.1,jz.1]at he;have:=hh.heap.inj y z o0 p0 h0 xV ((lN hl.2 o0).1 kj) ((lN jz.2 p0).1 gJ) he;rcases hy with⟨rfl,rfl⟩|⟨h1,h2,rfl⟩<;>rcases hz with⟨rfl,rfl⟩|⟨h3,h4,rfl⟩
  ·rfl
  ·exact absurd this.symm h4
  ·exact absurd this h2
  ·exact this
 ·intro t v ht
  simp only[bl]at ht
  cases h0:get e t with
  | none=>simp[h0]at ht
  | some v0=>
   simp[h0]at ht;subst ht;obtain⟨x,kl,hr⟩:=hh.env t v0 h0;exact⟨x,kl,a6.move hj hx v0 x (hu.env t v0 h0) hr⟩
theorem sF{K:Env->av->Prop}:∀ (l:List Nat) {L:Loc} {e:Env} {h:av},(∀ d∈l,d<500000)->Good cx r m L F ⟨e,h,s⟩ a w->pN l e h K -> ∀ (B:Nat->Prop),(∀ d,B d->d<500000/\ot ⟨get e,get h⟩ d) ->
  ∃ e' h' L',K e' h'/\Good cx r m L' F ⟨e',h',s⟩ a w /\ ∀ d,d∈l\/B d->ot ⟨get e',get h'⟩ d
 | [],L,e,h,_,hg,hk,B,hB=>⟨e,h,L,hk,hg,fun d hd=>(hd.elim (fun h=>by cases h) fun h=>(hB d h).2)⟩
 | d::l,L,e,h,hl,hg,hk,B,hB=>by
  have hd:d<500000:=hl d (List.mem_cons_self ..);have kill:∀ k (e:Env) (h:av),(∀ x,ot ⟨get e,get h⟩ x->ot ⟨get (cn (az (aQ k)) e),get (cn (Obj.az (aQ k)) h)⟩ x) /\
    (get h k=none->ot ⟨get (cn (az (aQ k)) e),get (cn (Obj.az (aQ k)) h)⟩ k):=by
   intro k e h;have hn:∀ x,(get h x=none)->(∀ y,x=y/\x≠k->¬ (∃ s v,get e s=some v/\fD v y)/\¬ (∃ s v,get h s=some v/\jg v y))->ot ⟨get (cn (az (aQ k)) e),get (cn (Obj.az (aQ k)) h)⟩ x:=by
    intro x h0 hy;refine⟨by simp[bl,h0],fun t v ht pa=>?_,fun t o ht pa=>?_⟩
    ·simp only[bl]at ht
     cases h1:get e t with
     | none=>simp[h1]at ht
     | some v0=>
      simp[h1]at ht;subst ht;obtain⟨y,h2,h3⟩:=lB (sZ k) v0 x pa;exact(hy y h3).1 ⟨t,v0,h1,h2⟩
    ·simp only[bl]at ht
     cases h1:get h t with
     | none=>simp[h1]at ht
     | some v0=>
      simp[h1]at ht;subst ht;obtain⟨y,h2,h3⟩:=pf (sZ k) v0 x pa;exact(hy y h3).2 ⟨t,v0,h1,h2⟩
   refine⟨fun x hx=>hn x hx.none fun y hy=>?_,fun h0=>hn k h0 fun y hy=>absurd rfl hy.2⟩;obtain⟨rfl,_⟩:=hy;exact⟨fun⟨t,v,h1,h2⟩=>hx.env t v h1 h2,fun⟨t,v,h1,h2⟩=>hx.heap t v h1 h2⟩
  have next:∀ (e2:Env) (h2:av) (L2:Loc),Good cx r m L2 F ⟨e2,h2,s⟩ a w->ot ⟨get e2,get h2⟩ d->(∀ x,B x->ot ⟨get e2,get h2⟩ x)->pN l e2 h2 K ->
    ∃ e' h' L',K e' h'/\Good cx r m L' F ⟨e',h',s⟩ a w /\ ∀ x,x∈d::l\/B x->ot ⟨get e',get h'⟩ x:=by
   intro e2 h2 L2 iX Tf eH fj;obtain⟨e',h',L',k1,k2,k3⟩:=sF l (fun x hx=>hl x (List.mem_cons_of_mem _ hx)) iX fj (fun x=>x=d\/B x) (fun x hx=>by
    rcases hx with rfl|hx
    ·exact⟨hd,Tf⟩
    ·exact⟨(hB x hx).1,eH x hx⟩)
   refine⟨e',h',L',k1,k2,fun x hx=>k3 x ?_⟩;rcases hx with hx|hx
   ·rcases List.mem_cons.1 hx with rfl|hx
    ·exact .inr (.inl rfl)
    ·exact .inl hx
   ·exact .inr (.inr hx)
  have hk:(match get h d with
   | none=>dx (cn (az (aQ d)) e) fun e=>fy (cn (Obj.az (aQ d)) h) fun h=>pN l e h K
   | some _=>dx (cn (az (cK d (500000+d))) (cn (az (aQ (500000+d))) e)) fun e=>
    fy (kA d (500000+d) (cn (Obj.az (aQ (500000+d))) (cut h (500000+d)))) fun h=>pN l e h K):=hk
  split at hk
  ·rename_i h0
   rw[eY,fS]at hk;exact next _ _ L (hg.kill d) ((kill d e h).2 h0) (fun x hx=>(kill d e h).1 x (hB x hx).2) hk
  ·rename_i dC _ o0 h0
   clear dC;rw[eY,fS]at hk;have db:Good cx r m L F ⟨e,cut h (500000+d),s⟩ a w:=hg.sub (fun _ _ h=>h) fun i o hi=>by
    rw[c0]at hi;split at hi
    ·cases hi
    ·exact hi
   have iX:=db.kill (500000+d);have hu:=(kill (500000+d) e (cut h (500000+d))).2 (by simp[c0]);have CE:∀ x,B x->ot ⟨get e,get (cut h (500000+d))⟩ x:=fun x hx=>by
    have hu:=(hB x hx).2;have gY:∀ i o,get (cut h (500000+d)) i=some o->get h i=some o:=fun i o hi=>by
     rw[c0]at hi;split at hi
     ·cases hi
     ·exact hi
    refine⟨?_,hu.env,fun i o hi=>hu.heap i o (gY i o hi)⟩
    cases hc:get (cut h (500000+d)) x with
    | none=>exact hc
    | some o=>have h1:=gY x o hc;have h2:get h x=none:=hu.none;rw[h2]at h1;cases h1
   have eH:=fun x hx=>(kill (500000+d) e (cut h (500000+d))).1 x (CE x hx);generalize cn (az (aQ (500000+d))) e=e1 at hk iX hu eH;generalize cn (Obj.az (aQ (500000+d))) (cut h (500000+d))=h1 at hk iX hu eH;have RE:∀ x,x≠500000+d->(x=d\/ot ⟨get e1,get h1⟩ x)->ot ⟨get (cn (az (cK d (500000+d))) e1),get (kA d (500000+d) h1)⟩ x:=by
    intro x hx GL;have BG:∀ y,(y=d/\x=500000+d)\/(y≠d/\x=y)->x≠d/\x=y:=by
     rintro y (⟨_,h⟩|⟨h,rfl⟩)
     ·exact absurd h hx
     ·exact⟨h,rfl⟩
    have P9:x≠d->ot ⟨get e1,get h1⟩ x:=fun h=>GL.resolve_left h;refine⟨?_,fun t v ht pa=>?_,fun t o ht pa=>?_⟩
    ·show get (kA d (500000+d) h1) x=none
     rw[nW h1 hu.none,if_neg hx];split
     ·rfl
     ·rename_i Tl
      have:get h1 x=none:=(P9 Tl).none;rw[this];rfl
    ·simp only[bl]at ht
     cases Al:get e1 t with
     | none=>simp[Al]at ht
     | some v0=>
      simp[Al]at ht;subst ht;obtain⟨y,h2,h3⟩:=lB (BT d (500000+d)) v0 x pa;obtain⟨h4,rfl⟩:=BG y h3;exact(P9 h4).env t v0 Al h2
    ·have ht:get (kA d (500000+d) h1) t=some o:=ht
     rw[nW h1 hu.none]at ht;have:∃ y o0,get h1 y=some o0/\o=Obj.az (cK d (500000+d)) o0:=by
      split at ht
      ·cases Al:get h1 d with
       | none=>simp[Al]at ht
       | some v0=>simp[Al]at ht;exact⟨d,v0,Al,ht.symm⟩
      ·split at ht
       ·cases ht
       ·cases Al:get h1 t with
        | none=>simp[Al]at ht
        | some v0=>simp[Al]at ht;exact⟨t,v0,Al,ht.symm⟩
     obtain⟨z,o0,Al,rfl⟩:=this;obtain⟨y,h2,h3⟩:=pf (BT d (500000+d)) o0 x pa;obtain⟨h4,rfl⟩:=BG y h3;exact(P9 h4).heap z o0 Al h2
   have Gy:=iX.move (i:=d) (j:=500000+d) (by unfold pinned;omega) (by omega) hu;exact next _ _ _ Gy (RE d (by omega) (.inl rfl)) (fun x hx=>RE x (by have:=(hB x hx).1;omega) (.inr (eH x hx))) hk
end
end Go.PX
namespace Go.PX
open Go.RowKit
structure vI(P:Program)(ops:Array Oper)(ev:List OT)(q:Rec):Prop where
 op:∃ o t,ops[q.idx]?=some o/\ev[q.idx]?=some t/\q.gZ=t.gZ/\(∀ x∈lM q.ws,o.dst=some x)/\(∀ x v,get q.e x=some v->x∈t.ts)
 hk:∀ x v,get q.h x=some v->x∈q.os
 news:cE q.ws=true
 snd:rG P ops q
theorem apart_spec{a b:OO}(h:apart a b=true):iI a.mo b.os=true/\iI a.mo b.mo=true/\iI b.mo a.os=true/\iI b.nw a.aL=true:=by
 unfold apart at h;split at h
 ·rename_i h1 h2 h3 h4;exact⟨h1,h2,h3,h4⟩
 ·cases h
theorem ov{o:OO}{acc:List OO}:∀ {l:List Nat},jE o acc l=true -> ∀ i∈l,∀ p,acc[i]?=some p->apart o p=true
 | [],_,i,hi,_,_=>by cases hi
 | k::r,h,i,hi,p,hp=>by
  simp only[jE]at h;split at h;case h_2=>cases h
  rename_i p' EM;split at h;case h_2=>cases h
  rename_i IH;rcases List.mem_cons.1 hi with rfl|hi
  ·rw[hp]at EM;cases EM;exact IH
  ·exact ov h i hi p hp
theorem rY{mk:List Nat}:∀ {acc:List OO},pg mk acc=true -> ∀ p∈acc,iI mk p.aL=true/\iI mk p.mo=true
 | [],_,p,hp=>by cases hp
 | q::r,h,p,hp=>by
  simp only[pg]at h;split at h;case h_2=>cases h
  rename_i h1 h2;rcases List.mem_cons.1 hp with rfl|hp
  ·exact⟨h1,h2⟩
  ·exact rY h p hp
theorem iP{α:Type}:∀ (l:List Nat) (t:sd α) (s:Nat) (u:α),get (aP l t) s=some u->s∈l
 | l,[],s,u,h=>by cases h
 | l,(k,v)::r,s,u,h=>by
  simp only[aP]at h;split at h
  ·rename_i hk
   simp only[get]at h;split at h
   ·rename_i he;have:=Nat.eq_of_beq_eq_true he;subst this;exact fW.1 hk
   ·exact iP l r s u h
  ·exact iP l r s u h
theorem gF{d:Option Nat}:∀ {ws:List Wr},mA d ws=true -> ∀ x∈lM ws,d=some x
 | [],_,x,hx=>by cases hx
 | w::r,h,x,hx=>by
  cases w with
  | set s v=>
   simp only[mA]at h;split at h;case h_2=>cases h
   rename_i k;split at h;case h_2=>cases h
   rename_i hk;simp only[lM,List.mem_cons]at hx;rcases hx with rfl|hx
   ·rw[Nat.eq_of_beq_eq_true hk]
   ·exact gF h x hx
  | _=>exact gF (ws:=r) h x hx
theorem Ei{ops:Array Oper}{e:Env}{guard:Option (Nat×Bool)}{X Z:List Wr->Prop}(hk:kM ops.toList e guard X Z) :
  ∃ (b:Bool) (ws:List Wr),((b=true/\X ws)\/(b=false/\Z ws))/\(ws = [] \/ ∃ d v,ws = [.set d v]/\get e d=some v) /\
   ∀ {σ:Type} {cx:Cx σ} {r:Option Nat} {m:List Nat} {L:Loc} {F:Nat->Nat} {st:St σ} {a:Act} {w:World} {dst:Option Nat} {op:Op} {ty:TypeId} {pos:String} {after:Array Edge},
    cM e st.env->Good cx r m L F st a w->Region.wanted ⟨dst,op,ty,pos,after,guard⟩ (yielded ops a.tmps)=b:=by
 unfold kM at hk;split at hk
 ·exact⟨true,[],.inl ⟨rfl,hk⟩,.inl rfl,fun _ _=>rfl⟩
 ·rename_i j JC
  split at hk;case h_2=>exact hk.elim
  rename_i d _ _ _ _ _ hj;have yA:(ops[j]?).bind (·.dst)=some d:=by
   rw[Array.getElem?_toList]at hj;rw[hj];rfl
  split at hk
  ·rename_i b hb
   have hy:∀ {σ:Type} {cx:Cx σ} {r:Option Nat} {m:List Nat} {L:Loc} {F:Nat->Nat} {st:St σ} {a:Act} {w:World},cM e st.env->Good cx r m L F st a w->yielded ops a.tmps j=some b:=by
    intro σ cx r m L F st a w he hg;obtain⟨x,hx,hr⟩:=hg.env d _ (he _ _ hb);have hr:x = .bool b:=hr;subst hr;unfold yielded;rw[yA];simp[hx]
   split at hk
   ·rcases tu hk with⟨rfl,hk⟩|⟨rfl,hk⟩
    ·exact⟨true,_,.inl ⟨rfl,hk⟩,.inr ⟨d,_,rfl,hb⟩,fun he hg=>by simp[Region.wanted,hy he hg]⟩
    ·exact⟨false,_,.inr ⟨rfl,hk⟩,.inr ⟨d,_,rfl,hb⟩,fun he hg=>by simp[Region.wanted,hy he hg]⟩
   ·rcases tu hk with⟨rfl,hk⟩|⟨rfl,hk⟩
    ·exact⟨false,_,.inr ⟨rfl,hk⟩,.inr ⟨d,_,rfl,hb⟩,fun he hg=>by simp[Region.wanted,hy he hg]⟩
    ·exact⟨true,_,.inl ⟨rfl,hk⟩,.inr ⟨d,_,rfl,hb⟩,fun he hg=>by simp[Region.wanted,hy he hg]⟩
  ·rename_i hb
   refine⟨false,[],.inr ⟨rfl,hk⟩,.inl rfl,fun {σ cx r m L F st a w} _ _ _ _ _ he hg=>?_⟩;obtain⟨x,hx,l,rfl,hl⟩:=hg.env d _ (he _ _ hb);have hy:yielded ops a.tmps j=none:=by
    unfold yielded;rw[yA];simp[hx]
   simp[Region.wanted,hy]
  ·exact hk.elim
theorem Eg{σ:Type}{e:Env}{h:av}{s:σ}{ws:List Wr}(hw:ws = [] \/ ∃ d v,ws = [.set d v]/\get e d=some v):bW (aK (⟨e,h,s⟩:St σ) ws)=⟨get e,get h⟩:=by
 rcases hw with rfl|⟨d,v,rfl,hv⟩
 ·rfl
 ·simp only[bW,aK,bE]
  congr 1
  funext x
  rw[cH];split
  ·rename_i he;subst he;exact hv.symm
  ·rfl
theorem FJ(P:Program)(T:dM)(made:List Nat)(ops:List Oper)(dst:Option Nat)(op:Op)(ty:TypeId)(pos:String)(after:Array Edge)(guard:Option (Nat×Bool))(ts gZ:List Nat)(l:List (Oper×OT))(acc:List OO)(e:Env)(h:av)(K:Env->av->Prop) :
  Bf P T made ops ((⟨dst,op,ty,pos,after,guard⟩,⟨ts,gZ⟩)::l) acc e h K=(cO (looksAt op e h ts) fun os=>dx (aP ts e) fun e'=>fy (aP os h) fun h'=>
    kM ops e' guard
     (fun w=>
      let go:=fun ws=>cO (ct ws) fun mo=>cO (bB ws) fun mk=>cO (bX ws) fun aL=>
       fc (kq dst made acc gZ ws ⟨os,mo,mk,aL⟩) (bk w e h fun e h=>bk (pA ws) e h fun e h=>Bf P T made ops l (acc ++ [⟨os,mo,mk,aL⟩]) e h K)
      match op with
      | .call ⟨callee,args,tys⟩=>match callee with
       | .builtin b=>dW T e' h' dst b args tys go
       | .value f=>match aM e' f,cQ e' args.toList with
        | some (.d (.clo g bS)),some l=>c8 P e' h' dst g (l++inj bS) go
        | some (.clo g bS),some l=>c8 P e' h' dst g (l++bS) go
        | _,_=>False
       | .invoke f name=>match aM e' f,cQ e' args.toList with
        | some (.d (.ifc t v)),some l=>F7 P t name fun g=>c8 P e' h' dst g (.d v::l) go
        | _,_=>False
      | op=>fo T e' h' dst op go)
     (fun w=>fc (jE ⟨os,[],[],[]⟩ acc gZ) (bk w e h fun e h=>bk (a9 dst (.d (.tup []))) e h fun e h=>Bf P T made ops l (acc ++ [⟨os,[],[],[]⟩]) e h K))):=rfl
section
variable {P : Program} {T : dM}
theorem wA{ops:Array Oper}{q:Rec}{o:Oper}(ho:ops[q.idx]?=some o)
  (hw:∀ {σ:Type} {cx:Cx σ} {r:Option Nat} {m:List Nat} {L:Loc} {F:Nat->Nat} {st:St σ} {a:Act} {w:World},cM q.e st.env->Good cx r m L F st a w->Region.wanted o (yielded ops a.tmps)=true)
  (ij:Out P q.e q.h o q.ws) (qT:∀ c,o.op ≠ .defer c):rG P ops q:=by
 intro σ cx sr r m L F st a w he hh hg hd next Q hn
 simp only[wpOpIn,ho];rw[if_pos (hw he hg)];exact ze ij he hh hg (hd o ho) qT fun x L' F' w' dY tr=>hn _ L' F' w' (eg x) dY tr
theorem Dd{ops:Array Oper}{q:Rec}{dst:Option Nat}{f:Operand}{n:String}{args:Array Operand}{tys:Array TypeId}{ty:TypeId}{pos:String}{after:Array Edge}{guard:Option (Nat×Bool)}
  (ho:ops[q.idx]?=some ⟨dst,.call ⟨.invoke f n,args,tys⟩,ty,pos,after,guard⟩)
  (hw:∀ {σ:Type} {cx:Cx σ} {r:Option Nat} {m:List Nat} {L:Loc} {F:Nat->Nat} {st:St σ} {a:Act} {w:World},cM q.e st.env->Good cx r m L F st a w->Region.wanted ⟨dst,.call ⟨.invoke f n,args,tys⟩,ty,pos,after,guard⟩ (yielded ops a.tmps)=true)
  {t:TypeId} {v:D} {g:FuncId} {l':List V} (hl:cQ q.e args.toList=some l') (hf:aM q.e f=some (.d (.ifc t v)))
  (hm:∀ v w,(method (P.types.size+Made.depth) t v n).run P w = .ok (g,v) w)
  (ij:iw P q.e q.h dst g (.d v::l') q.ws):rG P ops q:=by
 intro σ cx sr r m L F st a w he hh hg hd next Q hn
 simp only[wpOpIn,ho];rw[if_pos (hw he hg)];obtain⟨oa,dH⟩:=ij;have dY:Good cx r m L F ⟨q.e,st.heap,st.s⟩ a w:=hg.sub he (fun _ _ h=>h);obtain⟨y,cP,hv⟩:=dY.aM hf;have cr:=yP dY hl hv;have dH:=dH cx sr r m L F st a w (#[y]++args.map a.eval) he hh hg (hd _ ho) cr;refine⟨fun _ _=>trivial,?_⟩;rw[Oper.semAt_eq _ _ _ (fun c e=>by cases e),B1 hm oa cP,Oper.uponIn_enter];refine⟨(fun h=>by cases h),(ib dH).mono ?_⟩;rintro en w' ⟨x,rfl,L',F',dY,lL⟩;exact hn _ L' F' w' (eg x) dY lL
theorem uG{ops:Array Oper}{q:Rec}{dst:Option Nat}{f:Operand}{args:Array Operand}{tys:Array TypeId}{ty:TypeId}{pos:String}{after:Array Edge}{guard:Option (Nat×Bool)}
  (ho:ops[q.idx]?=some ⟨dst,.call ⟨.value f,args,tys⟩,ty,pos,after,guard⟩)
  (hw:∀ {σ:Type} {cx:Cx σ} {r:Option Nat} {m:List Nat} {L:Loc} {F:Nat->Nat} {st:St σ} {a:Act} {w:World},cM q.e st.env->Good cx r m L F st a w->Region.wanted ⟨dst,.call ⟨.value f,args,tys⟩,ty,pos,after,guard⟩ (yielded ops a.tmps)=true)
  {g:FuncId} {yc:List V} {l':List V} (hl:cQ q.e args.toList=some l')
  (hf:∀ {σ:Type} {cx:Cx σ} {r:Option Nat} {m:List Nat} {L:Loc} {F:Nat->Nat} {st:St σ} {a:Act} {w:World},cM q.e st.env->Good cx r m L F st a w -> ∃ lc:Array Value,a.eval f = .func (.func g) #[] lc/\aq cx.yv L F w yc lc.toList)
  (ij:iw P q.e q.h dst g (l'++yc) q.ws):rG P ops q:=by
 intro σ cx sr r m L F st a w he hh hg hd next Q hn
 simp only[wpOpIn,ho];rw[if_pos (hw he hg)];obtain⟨lc,cP,jM⟩:=hf he hg;obtain⟨oa,dH⟩:=ij;have jO:∃ vs:List Value,aq cx.yv L F w l' (args.toList.map a.eval):=⟨[],by
  have dY:Good cx r m L F ⟨q.e,st.heap,st.s⟩ a w:=hg.sub he (fun _ _ h=>h);exact dY.cQ hl⟩
 obtain⟨_,jO⟩:=jO;have cr:aq cx.yv L F w (l'++yc) (args.map a.eval++lc).toList:=by
  simpa using jO.append jM
 have dH:=dH cx sr r m L F st a w (args.map a.eval++lc) he hh hg (hd _ ho) cr;have bA:(execOp a.eval ⟨dst,.call ⟨.value f,args,tys⟩,ty,pos,after,guard⟩).run P w = .ok (.enter g (args.map a.eval++lc)) w:=by
  simp[execOp,resolve,Deferred.ofValue,cP,invoke,oa]
 refine⟨fun _ _=>trivial,?_⟩;rw[Oper.semAt_eq _ _ _ (fun c e=>by cases e),bA,Oper.uponIn_enter];refine⟨(fun h=>by cases h),(ib dH).mono ?_⟩;rintro en w' ⟨x,rfl,L',F',dY,lL⟩;exact hn _ L' F' w' (eg x) dY lL
theorem AS{ops:Array Oper}{q:Rec}{o:Oper}(ho:ops[q.idx]?=some o)(Np:q.ws=a9 o.dst (.d (.tup [])))
  (hw:∀ {σ:Type} {cx:Cx σ} {r:Option Nat} {m:List Nat} {L:Loc} {F:Nat->Nat} {st:St σ} {a:Act} {w:World},cM q.e st.env->Good cx r m L F st a w->Region.wanted o (yielded ops a.tmps)=false):rG P ops q:=by
 intro σ cx sr r m L F st a w he hh hg hd next Q hn
 simp only[wpOpIn,ho];rw[if_neg (by rw[hw he hg];simp)];refine⟨fun _ _=>trivial,?_⟩;refine hn _ L F w (eg _) ?_ (Tr.refl F w);rw[Np];exact hg.a9 (x:=undef) (hd o ho) ⟨#[],rfl,rfl⟩
theorem Cb(hT:bj P T){ops:Array Oper}{ev:List OT}{made:List Nat}(je:qC ops.toList ev ops.toList ev=true):∀ (l:List (Oper×OT)) (acc:List Rec),(∀ j p,l[j]?=some p->ops[acc.length+j]?=some p.1/\ev[acc.length+j]?=some p.2) ->
  (∀ k q,acc[k]?=some q->q.idx=k/\vI P ops ev q)->acc.Pairwise Pr -> ∀ {e:Env} {h:av} {K:Env->av->Prop},Bf P T made ops.toList l (acc.map Rec.oo) e h K ->
  ∃ (R:List Rec) (eN:Env) (hN:av),K eN hN/\mJ R ⟨get e,get h⟩ ⟨get eN,get hN⟩/\R.length=l.length/\(∀ k q,(acc++R)[k]?=some q->q.idx=k/\vI P ops ev q)/\(acc++R).Pairwise Pr /\ ∀ q∈R,∀ x∈bB q.ws,x∈made
 | [],acc,_,sj,mR,e,h,K,hk=>⟨[],e,h,hk,rfl,rfl,by simpa using sj,by simpa using mR,fun q hq=>by cases hq⟩
 | (⟨dst,op,ty,pos,after,guard⟩,⟨ts,gZ⟩)::l,acc,hl,sj,mR,e,h,K,hk=>by
  obtain⟨ho,Az⟩:=hl 0 (⟨dst,op,ty,pos,after,guard⟩,⟨ts,gZ⟩) rfl;simp only[Nat.add_zero]at ho Az;have jz:∀ j p,l[j]?=some p->ops[acc.length+1+j]?=some p.1/\ev[acc.length+1+j]?=some p.2:=fun j p hp=>by
   have:=hl (j+1) p (by simpa using hp)
   rwa [show acc.length+(j+1)=acc.length+1+j by omega]at this
  rw[FJ]at hk;rw[lh,eY,fS]at hk;generalize Nn:looksAt op e h ts=os at hk;obtain⟨b,lw,K6,Ax,we⟩:=Ei hk;clear hk;have GF:lw = [] \/ ∃ d v,lw = [.set d v]/\get e d=some v:=Ax.imp id fun⟨d,v,h1,h2⟩=>⟨d,v,h1,dS ts e d v h2⟩;have rest:∀ (ws:List Wr),cE ws=true->mA dst ws=true->(∀ x∈bB ws,x∈made)->jE ⟨os,ct ws,bB ws,bX ws⟩ (acc.map Rec.oo) gZ=true->pg (bB ws) (acc.map Rec.oo)=true ->
    rG P ops ⟨acc.length,aP ts e,aP os h,os,ws,gZ⟩->(bk lw e h fun e h=>bk (pA ws) e h fun e h=>Bf P T made ops.toList l (acc.map Rec.oo ++ [⟨os,ct ws,bB ws,bX ws⟩]) e h K) ->
    ∃ (R:List Rec) (eN:Env) (hN:av),K eN hN/\mJ R ⟨get e,get h⟩ ⟨get eN,get hN⟩/\R.length=l.length+1/\(∀ k q,(acc++R)[k]?=some q->q.idx=k/\vI P ops ev q)/\(acc++R).Pairwise Pr /\ ∀ q∈R,∀ x∈bB q.ws,x∈made:=by
   intro ws qf BK nh IH oc Je hk;rw[cj (),cj ()]at hk;have rQ:=Eg (s:=()) (h:=h) GF;generalize (aK (⟨e,h,()⟩:St Unit) lw)=oh at hk rQ;have Lh:=yq ws (⟨oh.env,oh.heap,()⟩:St Unit);generalize (aK (⟨oh.env,oh.heap,()⟩:St Unit) (pA ws))=rA at hk Lh;have Pc:(⟨get rA.env,get rA.heap⟩:Fs)=bz ⟨get e,get h⟩ ws:=by
    rw[<- rQ];exact Lh
   have hq:vI P ops ev ⟨acc.length,aP ts e,aP os h,os,ws,gZ⟩:=
    ⟨⟨_,_,ho,Az,rfl,gF BK,fun x v hx=>iP ts e x v hx⟩,fun x v hx=>iP os h x v hx,qf,Je⟩
   have FW:∀ p∈acc,Pr p ⟨acc.length,aP ts e,aP os h,os,ws,gZ⟩:=by
    intro p hp;obtain⟨k,fK,HV⟩:=List.mem_iff_getElem.1 hp;have Lt:acc[k]?=some p:=by rw[List.getElem?_eq_getElem fK,HV]
    obtain⟨Av,LJ⟩:=sj k p Lt;have e6:p.oo∈acc.map Rec.oo:=List.mem_map.2 ⟨p,hp,rfl⟩;obtain⟨FU,CW⟩:=rY oc p.oo e6;have FU:=fP FU;have CW:=fP CW;refine⟨by show p.idx<acc.length;omega,fun iY=>?_,FU,CW⟩;have iY:p.idx∈gZ:=iY;have ha:=apart_spec (ov IH p.idx iY p.oo (by rw[Av,List.getElem?_map,Lt];rfl));have a1:=fP ha.1;have a2:=fP ha.2.1;have a3:=fP ha.2.2.1;have a4:=fP ha.2.2.2;obtain⟨po,pt,S5,S6,RA,AA,I5⟩:=LJ.op;obtain⟨o1,t1,LD,JW,d1,d2,d3⟩:=r5 (qD je acc.length _ _ (by simpa using ho) Az) p.idx iY;have LF:ops[p.idx]?=some o1:=by simpa using LD
    rw[S5]at LF;cases LF;rw[S6]at JW;cases JW;have s5:∀ {α:Type} {t:sd α} {x:Nat},(∀ v,get t x=some v->False)->get t x=none:=by
     intro α t x hx
     cases hc:get t x with
     | none=>rfl
     | some v=>exact(hx v hc).elim
    refine⟨⟨fun x hx=>?_,fun x hx=>?_,fun x hx kl=>?_,fun x hx kl=>?_,fun x hx=>a4 x hx⟩,⟨fun x hx=>?_,fun x hx=>?_,fun x hx kl=>?_,fun x hx kl=>?_,fun x hx=>FU x hx⟩⟩
    ·exact s5 fun v hv=>d1 x (AA x hx) (iP ts e x v hv)
    ·exact s5 fun v hv=>a3 x hx (iP os h x v hv)
    ·exact d3 x (AA x hx) (gF BK x kl)
    ·exact a2 x kl hx
    ·exact s5 fun v hv=>d2 x (gF BK x hx) (I5 x v hv)
    ·exact s5 fun v hv=>a1 x hx (LJ.hk x v hv)
    ·exact d3 x (AA x kl) (gF BK x hx)
    ·exact a2 x hx kl
   have KY:∀ k q,(acc ++ [(⟨acc.length,aP ts e,aP os h,os,ws,gZ⟩:Rec)])[k]?=some q->q.idx=k/\vI P ops ev q:=by
    intro k q pD;rcases Nat.lt_trichotomy k acc.length with eC|heq|JR
    ·rw[List.getElem?_append_left eC]at pD
     exact sj k q pD
    ·subst heq
     simp at pD;subst pD;exact⟨rfl,hq⟩
    ·rw[List.getElem?_eq_none (by simp;omega)]at pD
     cases pD
   have PO:(acc ++ [(⟨acc.length,aP ts e,aP os h,os,ws,gZ⟩:Rec)]).Pairwise Pr:=
    List.pairwise_append.2 ⟨mR,List.pairwise_singleton _ _,fun x hx y hy=>by
     rcases List.mem_singleton.1 hy with rfl;exact FW x hx⟩
   obtain⟨R,eN,hN,k1,k2,k3,k4,k5,k6⟩:=Cb hT je l (acc ++ [⟨acc.length,aP ts e,aP os h,os,ws,gZ⟩]) (by simpa using jz) KY PO (e:=rA.env) (h:=rA.heap) (K:=K) (by simpa[Rec.oo]using hk);refine⟨⟨acc.length,aP ts e,aP os h,os,ws,gZ⟩::R,eN,hN,k1,⟨⟨fun s v hs=>dS ts e s v hs,fun s v hs=>dS os h s v hs⟩,?_⟩,by simp[k3],?_,?_,?_⟩
   ·rw[<- Pc];exact k2
   ·simpa using k4
   ·simpa using k5
   ·intro q hq x hx
    rcases List.mem_cons.1 hq with rfl|hq
    ·exact nh x hx
    ·exact k6 q hq x hx
  rcases K6 with⟨rfl,hk⟩|⟨rfl,hk⟩
  ·
   have fin:∀ (ws:List Wr),rG P ops ⟨acc.length,aP ts e,aP os h,os,ws,gZ⟩->(cO (ct ws) fun mo=>cO (bB ws) fun mk=>cO (bX ws) fun aL=>
       fc (kq dst made (acc.map Rec.oo) gZ ws ⟨os,mo,mk,aL⟩) (bk lw e h fun e h=>bk (pA ws) e h fun e h=>Bf P T made ops.toList l (acc.map Rec.oo ++ [⟨os,mo,mk,aL⟩]) e h K)) ->
     ∃ (R:List Rec) (eN:Env) (hN:av),K eN hN/\mJ R ⟨get e,get h⟩ ⟨get eN,get hN⟩/\R.length=l.length+1/\(∀ k q,(acc++R)[k]?=some q->q.idx=k/\vI P ops ev q)/\(acc++R).Pairwise Pr /\ ∀ q∈R,∀ x∈bB q.ws,x∈made:=by
    intro ws Je hk;rw[lh,lh,lh]at hk;obtain⟨hc,hk⟩:=bK hk;unfold kq at hc;split at hc;case h_2=>cases hc
    rename_i c1 c2 c3 c4 c5;exact rest ws c4 c5 (wM c3) c1 c2 Je hk
   by_cases dH:∃ c,op = .call c
   ·obtain⟨⟨callee,args,tys⟩,rfl⟩:=dH
    cases callee with
    | builtin bu=>
     obtain⟨ws,hk,ij⟩:=pO (P:=P) (ty:=ty) (pos:=pos) (after:=after) (guard:=guard) hT hk;exact fin ws (wA (q:=⟨acc.length,aP ts e,aP os h,os,ws,gZ⟩) ho (fun he hg=>we he hg) ij (fun c e=>by cases e)) hk
    | invoke f n=>
     have hk:(match aM (aP ts e) f,cQ (aP ts e) args.toList with
        | some (.d (.ifc t v)),some l'=>F7 P t n fun g=>c8 P (aP ts e) (aP os h) dst g (.d v::l') (fun ws=>cO (ct ws) fun mo=>cO (bB ws) fun mk=>cO (bX ws) fun aL=>
       fc (kq dst made (acc.map Rec.oo) gZ ws ⟨os,mo,mk,aL⟩) (bk lw e h fun e h=>bk (pA ws) e h fun e h=>Bf P T made ops.toList l (acc.map Rec.oo ++ [⟨os,mo,mk,aL⟩]) e h K))
        | _,_=>False):=hk
     split at hk;case h_2=>exact hk.elim
     rename_i t v l' hf jO;obtain⟨g,hm,ws,hk,ij⟩:=hk;exact fin ws (Dd (q:=⟨acc.length,aP ts e,aP os h,os,ws,gZ⟩) ho (fun he hg=>we he hg) jO hf hm ij) hk
    | value f=>
     have hk:(match aM (aP ts e) f,cQ (aP ts e) args.toList with
        | some (.d (.clo g bS)),some l'=>c8 P (aP ts e) (aP os h) dst g (l'++inj bS) (fun ws=>cO (ct ws) fun mo=>cO (bB ws) fun mk=>cO (bX ws) fun aL=>
       fc (kq dst made (acc.map Rec.oo) gZ ws ⟨os,mo,mk,aL⟩) (bk lw e h fun e h=>bk (pA ws) e h fun e h=>Bf P T made ops.toList l (acc.map Rec.oo ++ [⟨os,mo,mk,aL⟩]) e h K))
        | some (.clo g bS),some l'=>c8 P (aP ts e) (aP os h) dst g (l'++bS) (fun ws=>cO (ct ws) fun mo=>cO (bB ws) fun mk=>cO (bX ws) fun aL=>
       fc (kq dst made (acc.map Rec.oo) gZ ws ⟨os,mo,mk,aL⟩) (bk lw e h fun e h=>bk (pA ws) e h fun e h=>Bf P T made ops.toList l (acc.map Rec.oo ++ [⟨os,mo,mk,aL⟩]) e h K))
        | _,_=>False):=hk
     split at hk
     ·rename_i g bS l' hf jO
      obtain⟨ws,hk,ij⟩:=hk;refine fin ws (uG (q:=⟨acc.length,aP ts e,aP os h,os,ws,gZ⟩) ho (fun he hg=>we he hg) jO (fun {σ cx r m L F st a w} he hg=>?_) ij) hk;have dY:Good cx r m L F ⟨aP ts e,st.heap,st.s⟩ a w:=hg.sub he (fun _ _ h=>h);obtain⟨lc,cP,jM⟩:=dY.aM hf;exact⟨lc,cP,aq.inj.2 jM⟩
     ·rename_i g bS l' hf jO
      obtain⟨ws,hk,ij⟩:=hk;refine fin ws (uG (q:=⟨acc.length,aP ts e,aP os h,os,ws,gZ⟩) ho (fun he hg=>we he hg) jO (fun {σ cx r m L F st a w} he hg=>?_) ij) hk;have dY:Good cx r m L F ⟨aP ts e,st.heap,st.s⟩ a w:=hg.sub he (fun _ _ h=>h);obtain⟨lc,cP,jM⟩:=dY.aM hf;exact⟨lc,cP,jM⟩
     ·exact hk.elim
   ·have hk:fo T (aP ts e) (aP os h) dst op (fun ws=>cO (ct ws) fun mo=>cO (bB ws) fun mk=>cO (bX ws) fun aL=>
       fc (kq dst made (acc.map Rec.oo) gZ ws ⟨os,mo,mk,aL⟩) (bk lw e h fun e h=>bk (pA ws) e h fun e h=>Bf P T made ops.toList l (acc.map Rec.oo ++ [⟨os,mo,mk,aL⟩]) e h K)):=by
     cases op<;>first|exact hk|exact absurd ⟨_,rfl⟩ dH
    have qT:∀ c,op ≠ .defer c:=fun c hc=>by subst hc;exact hk
    obtain⟨ws,hk,ij⟩:=xy (P:=P) (ty:=ty) (pos:=pos) (after:=after) (guard:=guard) hT hk;exact fin ws (wA (q:=⟨acc.length,aP ts e,aP os h,os,ws,gZ⟩) ho (fun he hg=>we he hg) ij qT) hk
  ·obtain⟨hc,hk⟩:=bK hk
   have h0:ct (a9 dst (.d (.tup []))) = []/\bB (a9 dst (.d (.tup []))) = []/\bX (a9 dst (.d (.tup []))) = []/\cE (a9 dst (.d (.tup [])))=true/\mA dst (a9 dst (.d (.tup [])))=true/\pA (a9 dst (.d (.tup [])))=a9 dst (.d (.tup [])):=by
    cases dst with
    | none=>simp[a9,ct,bB,bX,cE,mA,pA]
    | some d=>simp[a9,ct,bB,bX,cE,mA,pA,bq,iI]
   obtain⟨z1,z2,z3,z4,z5,z6⟩:=h0;refine rest (a9 dst (.d (.tup []))) z4 z5 (by rw[z2];intro x hx;cases hx) (by rw[z1,z2,z3];exact hc) (by
    rw[z2];have:∀ acc:List OO,pg [] acc=true:=by
     intro acc
     induction acc with
     | nil=>rfl
     | cons p r ih=>simp[pg,iI,ih]
    exact this _) (AS (q:=⟨acc.length,aP ts e,aP os h,os,a9 dst (.d (.tup [])),gZ⟩) ho rfl (fun he hg=>we he hg)) ?_
   rw[z1,z2,z3,z6];exact hk
theorem Cp(hm:P.follows .mixedOrders=true)(hT:bj P T){ops:Array Oper}{rt:RT}(kX:gn ops.toList rt=true):DH P T ops rt:=by
 intro σ cx sr r m L F e h s a w K hg hd hk id;have yJ:=kX;simp only[gn,Bool.and_eq_true]at yJ;obtain⟨⟨⟨⟨hlen,gz⟩,jd⟩,je⟩,nh⟩:=yJ;have hlen:=Nat.eq_of_beq_eq_true hlen;obtain⟨e1,h1,L1,hk,db,hu⟩:=sF rt.made (fun d Er=>by
  have:=List.all_eq_true.1 nh d Er;exact Nat.le_of_ble_eq_true this) hg hk (fun _=>False) (fun _ h=>h.elim)
 obtain⟨R,eN,hN,k1,k2,k3,k4,k5,k6⟩:=Cb hT je (ops.toList.zip rt.ev) [] (fun j p hp=>by
  have:=List.getElem?_zip_eq_some.1 hp;simpa using this) (fun k q hq=>by simp at hq) List.Pairwise.nil hk
 simp only[List.nil_append]at k4 k5;have By:R.length=ops.size:=by rw[k3,List.length_zip,hlen];simp[<- hlen]
 refine wpIn_region_any hm ?_;have FA:Tr F w F { w with drawn:=w.drawn+1 }:=Tr.drew _;refine Dz (cx:=cx) sr (r:=r) (m:=m) (s:=s) (n0:=a.tmps.size) (F0:=F) (w0:=w) (f':=⟨get eN,get hN⟩) kX hd (fun a' w' L' F' st hf hs dY tr hn=>?_) ops.size (l:=R) (st:=⟨e1,h1,s⟩)
  ⟨k5,fun q hq=>?_,fun q hq=>?_,fun q hq=>?_⟩ (db.same (w':={ w with drawn:=w.drawn+1 }) rfl rfl rfl rfl) rfl FA rfl (fun q hq x hx=>hu x (.inl (k6 q hq x hx))) k2 (by omega) ⟨fun i=>?_,by simp,fun j o hj=>?_⟩
 ·refine⟨eN,hN,s,L',F',rfl,⟨k1,rfl⟩,?_,tr,hn⟩
  have he:get st.env=get eN:=congrArg Fs.env hf;have hh:get st.heap=get hN:=congrArg Fs.heap hf;have:=dY.sub (e:=eN) (h:=hN) (fun x v hx=>by rw[he];exact hx) (fun x v hx=>by rw[hh];exact hx);rw[hs]at this;exact this
 ·obtain⟨k,fK,pD⟩:=List.mem_iff_getElem.1 hq
  exact(k4 k q (by rw[List.getElem?_eq_getElem fK,pD])).2.snd
 ·obtain⟨k,fK,pD⟩:=List.mem_iff_getElem.1 hq
  exact(k4 k q (by rw[List.getElem?_eq_getElem fK,pD])).2.news
 ·obtain⟨k,fK,pD⟩:=List.mem_iff_getElem.1 hq
  obtain⟨o,t,h1,h2,h3,_⟩:=(k4 k q (by rw[List.getElem?_eq_getElem fK,pD])).2.op;exact⟨t,h2,h3⟩
 ·rw[Array.getD_eq_getD_getElem?,Array.getElem?_replicate]
  constructor
  ·rintro ⟨q,hq,rfl⟩
   obtain⟨k,fK,pD⟩:=List.mem_iff_getElem.1 hq;have:=(k4 k q (by rw[List.getElem?_eq_getElem fK,pD])).1;rw[if_pos (by omega)];rfl
  ·intro hi
   by_cases GA:i<ops.size
   ·exact⟨R[i],List.getElem_mem ..,(k4 i R[i] (List.getElem?_eq_getElem (by omega))).1⟩
   ·rw[if_neg GA]at hi;simp at hi
 ·rw[Array.getD_eq_getD_getElem?,Array.getElem?_replicate]at hj
  split at hj<;>cases hj
def gk(ft:FT):Code->Bool
 | .region id ops draw=>match draw with
  | false=>true
  | true=>match get ft.tb id with
   | none=>true
   | some rt=>gn ops.toList rt
 | .seq a b=>gk ft a&&gk ft b
 | .cond _ a b=>gk ft a&&gk ft b
 | .block _ a=>gk ft a
 | .loop a=>gk ft a
 | .scope a=>gk ft a
 | .rangeFunc _ _ a b=>gk ft a&&gk ft b
 | _=>true
theorem au(hm:P.follows .mixedOrders=true)(hT:bj P T){ft:FT}:∀ {c:Code},gk ft c=true->cY P T ft c
 | .region id ops draw,h=>by
  intro hd rt PW;subst hd;simp only[gk,PW]at h;exact Cp hm hT h
 | .seq a b,h=>by
  simp only[gk,Bool.and_eq_true]at h;exact⟨au hm hT h.1,au hm hT h.2⟩
 | .cond _ a b,h=>by
  simp only[gk,Bool.and_eq_true]at h;exact⟨au hm hT h.1,au hm hT h.2⟩
 | .block _ a,h=>au (c:=a) hm hT h
 | .loop a,h=>au (c:=a) hm hT h
 | .scope a,h=>au (c:=a) hm hT h
 | .rangeFunc _ _ a b,h=>by
  simp only[gk,Bool.and_eq_true]at h;exact⟨au hm hT h.1,au hm hT h.2⟩
 | .skip,_=>trivial
 | .exit _,_=>trivial
 | .label _,_=>trivial
 | .goto _,_=>trivial
 | .ret,_=>trivial
 | .refuse _,_=>trivial
end
def pz(tmps:Array Value)(r:ResultVar):Sem Value:=
 match r with
 | .tmp t=>pure (tmps.getD t undef)
 | .cell b t=>do loadVar t (<- asAddr (tmps.getD b undef))
theorem A0(fn:Func)(tmps:Array Value):results fn tmps=(do
  let vs <- fn.results.mapM (pz tmps)
  pure (if h:vs.size=1 then vs[0] else .tuple vs)):=rfl
section
variable {P : Program} {T : dM}
theorem AZ(hT:bj P T){e:Env}{h:av}:∀ {rs:List ResultVar} {K:List V->Prop},Fp T e h rs K ->
  ∃ l,K l /\ ∀ {σ:Type} {cx:Cx σ} {r:Option Nat} {m:List Nat} {L:Loc} {F:Nat->Nat} {s:σ} {a:Act} {w:World},Good cx r m L F ⟨e,h,s⟩ a w ->
   ∃ aX:List Value,(rs.mapM (pz a.tmps)).run P w = .ok aX w/\aq cx.yv L F w l aX
 | [],K,hk=>⟨[],hk,fun _=>⟨[],by simp,rfl⟩⟩
 | .tmp t::rs,K,hk=>by
  have hk:(match get e t with
   | some v=>Fp T e h rs fun l=>K (v::l)
   | none=>False):=hk
  split at hk
  ·rename_i v hv
   obtain⟨l,hl,bA⟩:=AZ hT hk;refine⟨v::l,hl,fun {σ cx r m L F s a w} hg=>?_⟩;obtain⟨aX,hr,AB⟩:=bA hg;obtain⟨x,hx,CY⟩:=hg.env t v hv;refine⟨x::aX,?_,x,aX,rfl,CY,AB⟩;simp only[List.mapM_cons,Sem.run_bind,pz,Sem.run_pure,Result.andThen_ok,hr];simp[hx]
  ·exact hk.elim
 | .cell b t::rs,K,hk=>by
  have hk:yW T e h t (.tmp b) fun v=>Fp T e h rs fun l=>K (v::l):=hk;obtain⟨v,hk,Lx⟩:=BR (P:=P) hT hk;obtain⟨l,hl,bA⟩:=AZ hT hk;refine⟨v::l,hl,fun {σ cx r m L F s a w} hg=>?_⟩;obtain⟨aX,hr,AB⟩:=bA hg;obtain⟨bb,off,y,hu,hy,yI⟩:=Lx cx L F s (a.eval (.tmp b)) w h (fun _ _ h=>h) hg.heap (fun v hv=>hg.aM hv);have JX:a.tmps.getD b undef = .pointer (some ⟨bb,off,none⟩):=hu;have PK:(pz a.tmps (.cell b t)).run P w = .ok y w:=by simp[pz,JX,asAddr,hy]
  refine⟨y::aX,?_,y,aX,rfl,yI,AB⟩;simp only[List.mapM_cons,Sem.run_bind,PK,Result.andThen_ok,hr,Sem.run_pure]
theorem zo{fn:Func}{tmps:Array Value}{w:World}{aX:List Value}(h:(fn.results.toList.mapM (pz tmps)).run P w = .ok aX w):(results fn tmps).run P w = .ok (BX aX) w:=by
 have I2:(fn.results.mapM (pz tmps)).run P w = .ok aX.toArray w:=by
  rw[Array.mapM_eq_mapM_toList];simp only[Sem.run_map,h,Result.andThen_ok]
 rw[A0];simp only[Sem.run_bind,I2,Result.andThen_ok,Sem.run_pure]
 congr 1
 match aX with
 | []=>rfl
 | [x]=>rfl
 | x::y::r=>simp[BX]
theorem bo.Jx{σ:Type}{cx:Cx σ}{L:Loc}{F:Nat->Nat}{h:av}{s:σ}{w:World}(hh:bo cx L F h s w){b:Nat}(hb:w.heap[b]?=some (.deferred (some [])))(hC:¬ cx.C s b) :
  bo cx L F h s (w.putObj b (.deferred none))/\Tr F w F (w.putObj b (.deferred none)):=by
 have hk:∀ x,x≠b->(w.putObj b (.deferred none)).heap[x]?=w.heap[x]?:=fun x hx=>by
  simp[World.putObj,Array.getElem?_setIfInBounds_ne (Ne.symm hx)]
 have Sk:(w.putObj b (.deferred none)).heap[b]?=some (.deferred none):=by
  simp[World.putObj,Array.getElem?_setIfInBounds,(Array.getElem?_eq_some_iff.1 hb).1]
 have cU:(w.putObj b (.deferred none)).heap.size=w.heap.size:=by simp[World.putObj]
 have tr:Tr F w F (w.putObj b (.deferred none)):=by
  refine⟨rfl,rfl,rfl,by rw[cU];exact Nat.le_refl _,fun _=>Nat.le_refl _,fun x o hx=>?_,fun x en c hx hm=>?_⟩
  ·by_cases he:x=b
   ·subst he;simp[World.cell?,hb,Sk]
   ·exact jx (hk x he)
  ·by_cases he:x=b
   ·subst he;rw[hb]at hm;cases hm
   ·rw[hk x he];exact hm
 have eA:∀ id o,get h id=some o->aN L id o->L.ρ id≠b:=by
  intro id o ho kO e;have:=hh.obj id o ho
  cases o with
  | box c=>obtain⟨c',T,hc,_⟩:=this;rw[e,hb]at hc;cases hc
  | arr sz es=>
   obtain⟨_,_,h⟩:=this;rcases h with⟨_,hk⟩|⟨c,T,hc,_⟩
   ·exact kO hk
   ·rw[e,hb]at hc;cases hc
  | map cc=>obtain⟨en,c,hc,_⟩:=this;rw[e,hb]at hc;cases hc
  | iter s n=>have hc:w.heap[L.ρ id]?=_:=this;rw[e,hb]at hc;cases hc
  | buf t s=>obtain⟨_,hc,_⟩:=this;rw[e,hb]at hc;cases hc
  | tb t l=>obtain⟨_,hc,_⟩:=this;rw[e,hb]at hc;cases hc
  | mit v n l u=>obtain⟨_,_,_,hc,_⟩:=this;rw[e,hb]at hc;cases hc
 refine⟨⟨cx.eV hh.hg tr (fun x hx=>hh.fresh x (by rw[<- cU];exact hx)) fun x hx=>⟨hk x (by rintro rfl;exact hC hx),rfl⟩,fun x hx=>by rw[cU];exact hh.iW x hx,fun x hx=>hh.fresh x (by rw[<- cU];exact hx),fun id o ho=>?_,hh.own,hh.inj⟩,tr⟩;exact bG.mono tr id o (fun _ _=>⟨rfl,rfl⟩) ⟨rfl,rfl⟩ (fun kO=>hk _ (eA id o ho kO)) (hh.obj id o ho)
theorem qo{σ:Type}{cx:Cx σ}{L:Loc}{F0:Nat->Nat}{w0:World}{h:av}{s:σ}{fn:Func}{tmps:Array Value}{R:Ending->World->Prop}:∀ (m:List Nat) {F:Nat->Nat} {w:World},bo cx L F h s w->Tr F0 w0 F w ->
  (∀ b∈m,w.heap[b]?=some (.deferred (some []))/\¬ cx.C s b)->m.Nodup->(∀ w',bo cx L F h s w'->Tr F w F w' -> ∃ v,(results fn tmps).run P w' = .ok v w'/\R (.returned v) w') ->
  LeavesInM Fence.wide 0 P fn tmps R (m.map mark) .returning w
 | [],F,w,hh,tr,hm,hn,hR=>by
  simp only[List.map_nil,LeavesInM,LeavesIn];exact hR w hh (Tr.refl F w)
 | b::m,F,w,hh,tr,hm,hn,hR=>by
  obtain⟨hb,hC⟩:=hm b (List.mem_cons_self ..);obtain⟨so,lL⟩:=hh.Jx hb hC;simp only[List.map_cons,LeavesInM];refine⟨by simp,.inl ⟨b,w.putObj b (.deferred none),rfl,?_,?_⟩⟩
  ·simp[Instr.takeDeferred,Sem.run_bind,getObj,setObj,Sem.run,hb,Result.andThen,World.putObj]
  ·have qT:=List.nodup_cons.1 hn
   refine qo m so (Tr.trans tr lL) (fun x hx=>?_) qT.2 fun w' h1 h2=>hR w' h1 (Tr.trans lL h2);have GW:x≠b:=by rintro rfl;exact qT.1 hx
   refine⟨?_,(hm x (List.mem_cons_of_mem _ hx)).2⟩;rw[<- (hm x (List.mem_cons_of_mem _ hx)).1];simp[World.putObj,Array.getElem?_setIfInBounds_ne (Ne.symm GW)]
def zK(ft:FT)(fn:Func)(n:Nat):Bool:=
 match fn.body with
 | some c => codeOk fn.ntmps c && gk ft c && Nat.ble fn.ntmps 1000000 && fn.name != "runtime.NumGoroutine" && Nat.ble n fn.ntmps
 | none=>false
theorem nU:∀ {args:List V} {i s:Nat} {v:V},get (dO i args) s=some v -> ∃ k,s=i+k/\args[k]?=some v
 | [],i,s,v,h=>by cases h
 | a::r,i,s,v,h=>by
  simp only[dO,get]at h;split at h
  ·rename_i he
   have:=Nat.eq_of_beq_eq_true he;subst this;cases h;exact⟨0,rfl,rfl⟩
  ·obtain⟨k,rfl,hk⟩:=nU h
   exact⟨k+1,by omega,by simpa using hk⟩
theorem ic(hm:P.follows .mixedOrders=true)(hT:bj P T){σ:Type}{Y:Hd σ}{f:FuncId}{fn:Func}{c:Code}(hf:P.funcs[f]?=some fn)(hb:fn.body=some c){ft:FT}{args:List V}(e7:zK ft fn args.length=true)
  {h:av} {s:σ} {Q:V->av->σ->Prop} (hw:FI P T ft Y.np c ⟨dO 0 args,h,s⟩ (MY T fn.results.toList Q)):zG P Y f args h s Q:=by
 unfold zK at e7;rw[hb]at e7;simp only[Bool.and_eq_true,bne_iff_ne,ne_eq]at e7;obtain⟨⟨⟨⟨K9,IN⟩,PH⟩,LB⟩,hlen⟩:=e7;have PH:=Nat.le_of_ble_eq_true PH;have hlen:=Nat.le_of_ble_eq_true hlen;refine⟨fun vs w=>by simp[callFunc,hf,LB,hb,Go.mark],fun cx hY L F aX w hh hr=>?_⟩;have BL:aX.size=args.length:=by simpa using hr.length
 have cU:(aX++Array.replicate (fn.ntmps-aX.size) undef).size=fn.ntmps:=by simp;omega
 refine callsIn_of_wp_marks hf hb trivial ?_;have hg:Good { cx with pρ:=L.ρ,pκ:=L.κ,base:=[] } none [] L F ⟨dO 0 args,h,s⟩ { tmps:=aX++Array.replicate (fn.ntmps-aX.size) undef,defers:=[] } w:=by
  refine⟨⟨hh.hg,hh.iW,hh.fresh,hh.obj,hh.own,hh.inj⟩,fun t v ht=>?_,rfl,(fun b hb=>by cases hb),List.nodup_nil,(fun l hl=>by cases hl),fun _ _=>⟨rfl,rfl⟩,by rw[cU];exact PH⟩;obtain⟨k,hk,hv⟩:=nU ht;rw[Nat.zero_add]at hk;subst hk;obtain⟨x,hx,CY⟩:=hr.get t hv;refine⟨x,?_,CY⟩;have eC:t<aX.size:=by
   have:=(List.getElem?_eq_some_iff.1 hx).1;simpa using this
  rw[Array.getElem?_append_left eC];simpa using hx
 have Si:cX P Y.np { cx with pρ:=L.ρ,pκ:=L.κ,base:=[] }:=by
  refine⟨?_,hY.laid⟩;intro l hl args h s Q hy L' F' aX w so hr;obtain⟨fn,tmps,xR,body,h1,h2⟩:=hY.yld l hl args h s Q hy L' F' aX w ⟨so.hg,so.iW,so.fresh,so.obj,so.own,so.inj⟩ hr;refine⟨fn,tmps,xR,body,h1,h2.mono ?_⟩;rintro e w' ⟨x,he,v,h',s',Ii,FK,hq,kR,rest⟩;exact⟨x,he,v,h',s',Ii,FK,hq,⟨kR.hg,kR.iW,kR.fresh,kR.obj,kR.own,kR.inj⟩,rest⟩
 have Qf:=dU hT c (au hm hT IN) ⟨dO 0 args,h,s⟩ _ hw _ Si none [] L F _ w hg (by rw[cU];exact K9);have Qf:c.wpIn Fence.wide 0 P _ { tmps:=aX++Array.replicate (fn.ntmps-aX.size) undef,defers:=[] } w:=Qf;refine wpIn_mono Qf fun ex a' w' hq=>?_;rcases hq with⟨e',st',m',L',F',rfl,hk,dY,tr,hs⟩|⟨v,e',h',s',m',L',F',_,hy,_⟩
 case inr=>exact hy.elim
 have fin:MY T fn.results.toList Q .normal st'->LeavesInM Fence.wide 0 P fn a'.tmps (fun e w'=>∃ x,e = .returned x /\ ∃ v h' s' L' F',Q v h' s'/\bo cx L' F' h' s' w'/\a6 cx.yv L' F' w' v x/\Tr F w F' w'/\te L L') a'.defers .returning w':=by
  intro hk;rw[dY.sI,List.append_nil];refine qo m' dY.heap tr dY.oe dY.uy fun B9 kR Mu=>?_;obtain⟨e1,h1,s1⟩:=st';have hk:Fp T e1 h1 fn.results.toList fun l=>pJ l h1 s1 Q:=hk;obtain⟨l,⟨PU⟩,bA⟩:=AZ (P:=P) hT hk;have IX:Good { cx with pρ:=L.ρ,pκ:=L.κ,base:=[] } none [] L' F' ⟨e1,h1,s1⟩ { a' with defers:=[] } B9:=by
   refine⟨kR,fun t v ht=>?_,rfl,(fun b hb=>by cases hb),List.nodup_nil,(fun l hl=>by cases hl),dY.lG,dY.sD⟩;obtain⟨x,hx,CY⟩:=dY.env t v ht;exact⟨x,hx,a6.mono Mu v x (fun _ _=>⟨rfl,rfl⟩) CY⟩
  obtain⟨Mw,yF,AB⟩:=bA IX;obtain⟨v,h',L2,F2,hq,SD,wb,DG,Qn⟩:=PU cx L' F' Mw B9 ⟨kR.hg,kR.iW,kR.fresh,kR.obj,kR.own,kR.inj⟩ AB;refine⟨_,zo yF,_,rfl,v,h',s1,L2,F2,hq,SD,wb,Tr.trans tr (Tr.trans Mu DG),fun i hi=>?_⟩;obtain⟨p1,p2⟩:=Qn i hi;obtain⟨p3,p4⟩:=dY.lG i hi;exact⟨p1.trans p3,p2.trans p4⟩
 cases e' with
 | normal=>exact fin hk
 | ret=>exact fin hk
 | exit i=>exact hk.elim
end
def fG(R:Nat->Nat)(v:V):V:=
 match v with
 | .ptr i off=>.ptr (R i) off
 | .ep i sz k off=>.ep (R i) sz k off
 | .sl i sz off n=>.sl (R i) sz off n
 | .mp i=>.mp (R i)
 | .it i=>.it (R i)
 | v=>v
abbrev kY(R:Nat->Nat)(v:V):V:=az (fG R) v
abbrev og(R:Nat->Nat)(v:List V):List V:=ca (fG R) v
abbrev ir(R:Nat->Nat)(o:Obj):Obj:=Obj.az (fG R) o
section
variable {yv : Option Nat} {L L' : Loc} {F : Nat -> Nat} {w : World} {R : Nat -> Nat}
mutual
theorem a6.kY:∀ (v:V) (x:Value),(∀ i,fD v i->L'.ρ (R i)=L.ρ i/\L'.κ (R i)=L.κ i)->(a6 yv L' F w (az (fG R) v) x↔a6 yv L F w v x)
 | .d v,_,_=>Iff.rfl
 | .agg cs,x,hn=>by
  constructor
  ·rintro ⟨l,rfl,hl⟩;exact⟨l,rfl,(aq.kY cs _ hn).1 hl⟩
  ·rintro ⟨l,rfl,hl⟩;exact⟨l,rfl,(aq.kY cs _ hn).2 hl⟩
 | .tup cs,x,hn=>by
  constructor
  ·rintro ⟨l,rfl,hl⟩;exact⟨l,rfl,(aq.kY cs _ hn).1 hl⟩
  ·rintro ⟨l,rfl,hl⟩;exact⟨l,rfl,(aq.kY cs _ hn).2 hl⟩
 | .ptr id off,x,hn=>by
  show x = .pointer (some ⟨L'.ρ (R id),off,none⟩)↔x = .pointer (some ⟨L.ρ id,off,none⟩);rw[(hn id rfl).1]
 | .ep id sz k off,x,hn=>by
  show x = .pointer (some ⟨L'.ρ (R id),k*sz+off,none⟩)↔x = .pointer (some ⟨L.ρ id,k*sz+off,none⟩);rw[(hn id rfl).1]
 | .sl id sz off len,x,hn=>by
  show(∃ a cap,x = .slice a len cap/\len<=cap/\0<sz/\((len=0/\cap=0)\/(a=some ⟨L'.ρ (R id),off*sz,none⟩/\(off+cap)*sz<=L'.κ (R id)))) ↔
   (∃ a cap,x = .slice a len cap/\len<=cap/\0<sz/\((len=0/\cap=0)\/(a=some ⟨L.ρ id,off*sz,none⟩/\(off+cap)*sz<=L.κ id)))
  rw[(hn id rfl).1,(hn id rfl).2]
 | .mp id,x,hn=>by
  show x = .map (some (L'.ρ (R id)))↔x = .map (some (L.ρ id));rw[(hn id rfl).1]
 | .it id,x,hn=>by
  show x = .pointer (some ⟨L'.ρ (R id),0,none⟩)↔x = .pointer (some ⟨L.ρ id,0,none⟩);rw[(hn id rfl).1]
 | .clo f cs,x,hn=>by
  constructor
  ·rintro ⟨l,rfl,hl⟩;exact⟨l,rfl,(aq.kY cs _ hn).1 hl⟩
  ·rintro ⟨l,rfl,hl⟩;exact⟨l,rfl,(aq.kY cs _ hn).2 hl⟩
 | .yld,_,_=>Iff.rfl
 | .unk,_,_=>Iff.rfl
theorem aq.kY:∀ (vs:List V) (l:List Value),(∀ i,bF vs i->L'.ρ (R i)=L.ρ i/\L'.κ (R i)=L.κ i)->(aq yv L' F w (ca (fG R) vs) l↔aq yv L F w vs l)
 | [],_,_=>Iff.rfl
 | v::r,l,hn=>by
  simp only[ca,aq];constructor
  ·rintro ⟨x,l',rfl,hv,hl⟩;exact⟨x,l',rfl,(a6.kY v x fun i hi=>hn i (.inl hi)).1 hv,(aq.kY r l' fun i hi=>hn i (.inr hi)).1 hl⟩
  ·rintro ⟨x,l',rfl,hv,hl⟩;exact⟨x,l',rfl,(a6.kY v x fun i hi=>hn i (.inl hi)).2 hv,(aq.kY r l' fun i hi=>hn i (.inr hi)).2 hl⟩
end
theorem sA{f:V->V}{sz:Nat}{l:List (List V)}:cJ sz (a7 f l)↔cJ sz l:=by
 induction l with
 | nil=>exact Iff.rfl
 | cons e r ih=>
  simp only[a7,cJ,List.forall_mem_cons,iC];exact and_congr Iff.rfl ih
theorem yY{f:V->V}{l:List (List V)}:a7 f l = []↔l = []:=by cases l<;>simp[a7]
theorem bG.kY(id:Nat)(o:Obj)(hn:∀ i,jg o i->L'.ρ (R i)=L.ρ i/\L'.κ (R i)=L.κ i){id':Nat}(dZ:L'.ρ id'=L.ρ id/\L'.κ id'=L.κ id) :
  bG yv L' F w id' (ir R o)↔bG yv L F w id o:=by
 cases o with
 | box c=>
  cases c with
  | dd l=>
   simp only[bG,Obj.az,dZ.1,Cells.aU,aq.inj]
  | vv l=>
   simp only[bG,Obj.az,dZ.1,Cells.aU];refine exists_congr fun c=>exists_congr fun T=>and_congr Iff.rfl (aq.kY l _ hn)
 | arr sz es=>
  cases es with
  | dd l=>
   simp only[bG,Obj.az,dZ.1,dZ.2,aC.aU,cI,aq.inj]
  | vv l=>
   simp only[bG,Obj.az,dZ.1,dZ.2,aC.aU];rw[sA,yY,fA,eX];refine and_congr Iff.rfl (and_congr Iff.rfl (or_congr Iff.rfl ?_));refine exists_congr fun c=>exists_congr fun T=>and_congr Iff.rfl (and_congr Iff.rfl (and_congr Iff.rfl (aq.kY l.flatten _ hn)))
 | map cc=>simp only[bG,Obj.az,dZ.1]
 | iter s n=>simp only[bG,Obj.az,dZ.1]
 | buf t s=>simp only[bG,Obj.az,dZ.1,dZ.2]
 | tb t l=>
  simp only[bG,Obj.az,dZ.1];refine exists_congr fun c=>and_congr Iff.rfl (aq.kY l _ hn)
 | mit v n l u=>
  simp only[bG,Obj.az,dZ.1];refine exists_congr fun r=>exists_congr fun seen=>and_congr (a6.kY v _ hn) Iff.rfl
theorem bN(id:Nat)(o:Obj){id':Nat}(hk:L'.κ id'=L.κ id):aN L' id' (ir R o)↔aN L id o:=lN hk o
end
def br(tb:List Nat)(d:Nat)(i:Nat):Nat:=
 match Nat.blt i 1000000 with
 | true=>i
 | false=>match Nat.blt i 2000000 with
  | true=>match tb[i-1000000]? with
   | some k=>k
   | none=>0
  | false=>100000+64*d+(i-2000000)
def cq:av->List Nat
 | []=>[]
 | (i,_)::r=>match Nat.blt i 2000000 with
  | true=>cq r
  | false=>i::cq r
def dy(R:Nat->Nat)(h':av):Nat->List Nat->List Wr
 | _,[]=>[]
 | i,k::r=>(match get h' i with
  | some o=>.obj k (ir R o)
  | none=>.del k)::dy R h' (i+1) r
def fZ(R:Nat->Nat)(h':av):List Nat->List Wr
 | []=>[]
 | i::r=>(match get h' i with
  | some o=>.new (R i) (ir R o)
  | none=>.new (R i) (.box (.dd [])))::fZ R h' r
def bZ(tb:List Nat)(d:Option Nat)(v:V)(h':av):List Wr:=
 let R:=br tb (d.getD 0)
 fZ R h' (cq h')++(dy R h' 1000000 tb++a9 d (kY R v))
def e8:List Nat->Bool
 | []=>true
 | k::r=>!sy r k&&e8 r
def rI(n:Nat)(nk:List Nat):List Nat->Bool
 | []=>true
 | i::r=>(Nat.ble 1000000 i&&Nat.blt i (1000000+n)||sy nk i)&&rI n nk r
def bT:av->List Nat
 | []=>[]
 | (i,o)::r=>i::(bU o++bT r)
def gb(R:Nat->Nat)(h:av):Nat->List Nat->av->Prop
 | _,[],h0=>h0 = []
 | i,k::r,h0=>∃ o h1,h0=(i,o)::h1/\get h k=some (ir R o)/\gb R h (i+1) r h1
def g7(tb:List Nat)(d:Option Nat)(v:V)(h':av):Bool:=
 e8 tb&&Nat.ble (cq h').length 64&&e8 (cq h')&&iI tb ((cq h').map (br tb (d.getD 0)))&&rI tb.length (cq h') (bT h')&&rI tb.length (cq h') (bq v) &&
  (cq h').all (fun i=>Nat.blt i 2000064)&&Nat.ble (d.getD 0) 10000&&Nat.ble tb.length 1000&&cE (bZ tb d v h')
def zH(P:Program)(f:FuncId)(args:List V)(h:av)(Q:V->av->Prop):Prop:=
 ∀ {σ:Type} (Y:Hd σ) (s:σ),zG P Y f args h s fun v h' s'=>Q v h'/\s'=s
theorem gC:∀ {l:List Nat},e8 l=true->l.Nodup
 | [],_=>List.nodup_nil
 | k::r,h=>by
  simp only[e8,Bool.and_eq_true,Bool.not_eq_true']at h;refine List.nodup_cons.2 ⟨fun hm=>?_,gC h.2⟩;rw[fW.2 hm]at h;cases h.1
theorem oR{n:Nat}{nk:List Nat}:∀ {l:List Nat},rI n nk l=true -> ∀ i∈l,(1000000<=i/\i<1000000+n)\/i∈nk
 | [],_,i,hi=>by cases hi
 | k::r,h,i,hi=>by
  simp only[rI,Bool.and_eq_true,Bool.or_eq_true]at h;rcases List.mem_cons.1 hi with rfl|hi
  ·exact h.1.imp (fun h=>⟨Nat.le_of_ble_eq_true h.1,Nat.le_of_ble_eq_true h.2⟩) fW.1
  ·exact oR h.2 i hi
theorem a5:∀ {h:av} {i:Nat} {o:Obj},get h i=some o->i∈bT h /\ ∀ x∈bU o,x∈bT h
 | [],i,o,h=>by cases h
 | (k,p)::r,i,o,h=>by
  simp only[get]at h;split at h
  ·rename_i he
   have:=Nat.eq_of_beq_eq_true he;subst this;cases h;exact⟨by simp[bT],fun x hx=>by simp[bT,hx]⟩
  ·obtain⟨h1,h2⟩:=a5 h
   exact⟨by simp[bT,h1],fun x hx=>by simp[bT,h2 x hx]⟩
theorem mj:∀ {h:av} {i:Nat},i∈cq h->2000000<=i
 | [],i,h=>by cases h
 | (k,p)::r,i,h=>by
  simp only[cq]at h;split at h
  ·exact mj h
  ·rename_i hk
   rcases List.mem_cons.1 h with rfl|h
   ·rcases Nat.lt_or_ge i 2000000 with eC|DC
    ·rw[show Nat.blt i 2000000=true from Nat.ble_eq_true_of_le eC]at hk;cases hk
    ·exact DC
   ·exact mj h
theorem gj{tb:List Nat}{d k id:Nat}(hk:tb[k]?=some id)(hl:tb.length<=1000):br tb d (1000000+k)=id:=by
 have eC:k<tb.length:=(List.getElem?_eq_some_iff.1 hk).1;unfold br;have h1:Nat.blt (1000000+k) 1000000=false:=by
  rw[Bool.eq_false_iff];intro h;have:=Nat.le_of_ble_eq_true h;omega
 have h2:Nat.blt (1000000+k) 2000000=true:=Nat.ble_eq_true_of_le (by omega);rw[h1,h2];simp only[show 1000000+k-1000000=k by omega,hk]
theorem qX{tb:List Nat}{d i:Nat}(hi:2000000<=i):br tb d i=100000+64*d+(i-2000000):=by
 unfold br;have h1:Nat.blt i 1000000=false:=by
  rw[Bool.eq_false_iff];intro h;have:=Nat.le_of_ble_eq_true h;omega
 have h2:Nat.blt i 2000000=false:=by
  rw[Bool.eq_false_iff];intro h;have:=Nat.le_of_ble_eq_true h;omega
 rw[h1,h2]
theorem rU{R:Nat->Nat}{h:av}:∀ {tb:List Nat} {b:Nat} {h0:av},gb R h b tb h0 -> ∀ i o,get h0 i=some o -> ∃ k id,i=b+k/\tb[k]?=some id/\get h id=some (ir R o)
 | [],b,h0,hl,i,o,hi=>by
  have:h0 = []:=hl;subst this;cases hi
 | id::r,b,h0,hl,i,o,hi=>by
  obtain⟨o',h1,rfl,hg,hl⟩:=hl;simp only[get]at hi;split at hi
  ·rename_i he
   have:=Nat.eq_of_beq_eq_true he;subst this;cases hi;exact⟨0,id,rfl,by simp,hg⟩
  ·obtain⟨k,id',rfl,hk,dY⟩:=rU hl i o hi
   exact⟨k+1,id',by omega,by simpa using hk,dY⟩
def lY{σ:Type}(st:St σ):List Nat->St σ
 | []=>st
 | i::r=>lY ⟨cn (az (aQ i)) st.env,cn (Obj.az (aQ i)) (cut st.heap i),st.s⟩ r
def wj:List Nat->V->V
 | [],v=>v
 | i::r,v=>wj r (az (aQ i) v)
def nn:List Nat->Obj->Obj
 | [],v=>v
 | i::r,v=>nn r (Obj.az (aQ i) v)
theorem HD{σ:Type}:∀ (l:List Nat) (st:St σ),(lY st l).s=st.s
 | [],_=>rfl
 | _::r,st=>by rw[lY,HD r]
theorem lZ{σ:Type}:∀ (l:List Nat) (st:St σ) (x:Nat),get (lY st l).env x=(get st.env x).map (wj l)
 | [],st,x=>by cases h:get st.env x<;>simp[lY,wj,h]
 | i::r,st,x=>by
  rw[lY,lZ r,bl];cases h:get st.env x<;>simp[wj]
theorem iG{σ:Type}:∀ (l:List Nat) (st:St σ) (x:Nat),get (lY st l).heap x=if x∈l then none else (get st.heap x).map (nn l)
 | [],st,x=>by cases h:get st.heap x<;>simp[lY,nn,h]
 | i::r,st,x=>by
  rw[lY,iG r,bl,c0];by_cases h1:x∈r
  ·simp[h1]
  ·by_cases h2:x=i
   ·simp[h2]
   ·cases h:get st.heap x<;>simp[h1,h2,nn]
theorem qm:∀ (l:List Nat) (v:V),(∀ i∈l,¬ fD v i)->wj l v=v
 | [],_,_=>rfl
 | i::r,v,h=>by
  rw[wj,sY i v (h i (List.mem_cons_self ..))];exact qm r v fun j hj=>h j (List.mem_cons_of_mem _ hj)
theorem lr:∀ (l:List Nat) (v:Obj),(∀ i∈l,¬ jg v i)->nn l v=v
 | [],_,_=>rfl
 | i::r,v,h=>by
  rw[nn,yS i v (h i (List.mem_cons_self ..))];exact lr r v fun j hj=>h j (List.mem_cons_of_mem _ hj)
section
variable {σ : Type} {cx : Cx σ} {r : Option Nat} {m : List Nat} {L : Loc} {F : Nat -> Nat} {a : Act} {w : World}
theorem Good.lY:∀ (l:List Nat) {st:St σ},Good cx r m L F st a w->Good cx r m L F (lY st l) a w
 | [],st,h=>h
 | i::l,st,h=>by
  have h1:Good cx r m L F ⟨st.env,cut st.heap i,st.s⟩ a w:=h.del i;exact Good.lY l (h1.kill i)
end
theorem pd{e:Env}{h:av}(k:Nat){x:Nat}(hx:x=k\/ot ⟨get e,get h⟩ x):ot ⟨get (cn (az (aQ k)) e),get (cn (Obj.az (aQ k)) (cut h k))⟩ x:=by
 refine⟨?_,fun t v ht pa=>?_,fun t o ht pa=>?_⟩
 ·show get _ x=none
  rw[bl,c0];split
  ·rfl
  ·rename_i LZ
   have:get h x=none:=(hx.resolve_left LZ).none;rw[this];rfl
 ·simp only[bl]at ht
  cases h1:get e t with
  | none=>simp[h1]at ht
  | some v0=>
   simp[h1]at ht;subst ht;obtain⟨y,h2,rfl,h3⟩:=lB (sZ k) v0 x pa;exact(hx.resolve_left h3).env t v0 h1 h2
 ·simp only[bl,c0]at ht
  split at ht
  ·cases ht
  ·cases h1:get h t with
   | none=>simp[h1]at ht
   | some v0=>
    simp[h1]at ht;subst ht;obtain⟨y,h2,rfl,h3⟩:=pf (sZ k) v0 x pa;exact(hx.resolve_left h3).heap t v0 h1 h2
theorem Bp{σ:Type}:∀ (l:List Nat) (st:St σ) (B:Nat->Prop),(∀ x,B x->ot (bW st) x) -> ∀ x,x∈l\/B x->ot (bW (lY st l)) x
 | [],st,B,hB,x,hx=>hB x (hx.resolve_left (by simp))
 | i::l,st,B,hB,x,hx=>by
  rw[lY];refine Bp l ⟨cn (az (aQ i)) st.env,cn (Obj.az (aQ i)) (cut st.heap i),st.s⟩ (fun y=>y=i\/B y) (fun y hy=>pd i (hy.imp id (hB y))) x ?_;rcases hx with hx|hx
  ·rcases List.mem_cons.1 hx with rfl|hx
   ·exact .inr (.inl rfl)
   ·exact .inl hx
  ·exact .inr (.inr hx)
theorem qa{σ:Type}:∀ (ws:List Wr) (st:St σ),cE ws=true->bW (aK st ws)=bz (bW (lY st (bB ws))) ws
 | [],st,_=>rfl
 | w::r,st,e7=>by
  obtain⟨h1,h2,h3,h4⟩:=r4 e7;rw[aK,qa r _ h1,bz]
  congr 1
  have put:∀ (i:Nat) (o:Obj),(∀ x∈bB r,x∉bU o)->(∀ x∈bB r,x≠i) -> ∀ (e:Env) (h:av) (s:σ),
    bW (lY (⟨e,put h i o,s⟩:St σ) (bB r))=⟨(bW (lY (⟨e,h,s⟩:St σ) (bB r))).env,fun x=>if x=i then some o else (bW (lY (⟨e,h,s⟩:St σ) (bB r))).heap x⟩:=by
   intro i o ho hi e h s
   ext1
   ·funext x;simp only[bW,lZ]
   ·funext x
    simp only[bW,iG,cH];by_cases hx:x=i
    ·subst hx
     rw[if_neg (fun hm=>hi x hm rfl),if_pos rfl,if_pos rfl];simp only[Option.map_some];rw[lr _ _ fun j hj hn=>ho j hj (cp j o hn)]
    ·simp only[hx,if_false]
  have one:∀ (i:Nat) (o:Obj),(∀ x∈bB r,x∉bU o)->(∀ x∈bB r,x≠i) -> ∀ (e:Env) (h:av) (s:σ),
    bW (lY (⟨e,(i,o)::h,s⟩:St σ) (bB r))=⟨(bW (lY (⟨e,h,s⟩:St σ) (bB r))).env,fun x=>if x=i then some o else (bW (lY (⟨e,h,s⟩:St σ) (bB r))).heap x⟩:=by
   intro i o ho hi e h s
   ext1
   ·funext x;simp only[bW,lZ]
   ·funext x
    simp only[bW,iG,aF];by_cases hx:x=i
    ·subst hx
     rw[if_neg (fun hm=>hi x hm rfl),if_pos rfl,if_pos rfl];simp only[Option.map_some];rw[lr _ _ fun j hj hn=>ho j hj (cp j o hn)]
    ·simp only[hx,if_false]
  cases w with
  | set s v=>
   simp only[bE,bB,dN]
   ext1
   ·funext x
    simp only[bW,lZ,cH];split
    ·simp only[Option.map_some]
     rw[qm _ _ fun j hj hn=>h2 j hj (by simp[bX,dD j v hn])]
    ·rfl
   ·funext x;simp only[bW,iG]
  | obj i o=>
   simp only[bE,bB,dN];exact put i o (fun x hx=>by simpa[bX]using h2 x hx) (fun x hx he=>by obtain⟨_,hd⟩:=h3 x hx (by simp[ct,he]);cases hd) _ _ _
  | new i o=>
   simp only[bE,bB,dN];rw[lY];exact one i o (fun x hx=>by simpa[bX]using h2 x hx) (fun x hx he=>by obtain⟨_,hd⟩:=h3 x hx (by simp[ct,he]);cases hd) _ _ _
  | newq i o=>exact absurd rfl (h4 i o)
  | del i=>
   simp only[bE,bB,dN]
   ext1
   ·funext x;simp only[bW,lZ]
   ·funext x
    simp only[bW,iG,c0];by_cases h1:x=i
    ·simp[h1]
    ·simp[h1]
theorem gW(a b:List Wr):bB (a++b)=bB a++bB b:=by
 induction a with
 | nil=>rfl
 | cons w r ih=>cases w<;>simp[bB,ih]
theorem dV(f:Fs)(a b:List Wr):bz f (a++b)=bz (bz f a) b:=by
 induction a generalizing f with
 | nil=>rfl
 | cons w r ih=>simp[bz,ih]
theorem mD(d:Option Nat)(v:V):bB (a9 d v) = []:=by cases d<;>rfl
theorem kf(R:Nat->Nat)(h':av):∀ (l:List Nat) (i:Nat),bB (dy R h' i l) = []
 | [],_=>rfl
 | k::r,i=>by
  simp only[dy];split<;>simp[bB,kf R h' r]
theorem rE(R:Nat->Nat)(h':av):∀ (l:List Nat),bB (fZ R h' l)=l.map R
 | []=>rfl
 | k::r=>by
  simp only[fZ];split<;>simp[bB,rE R h' r]
theorem pB(tb:List Nat)(d:Option Nat)(v:V)(h':av):bB (bZ tb d v h')=(cq h').map (br tb (d.getD 0)):=by
 simp only[bZ,gW,rE,kf,mD,List.append_nil]
theorem wo(R:Nat->Nat)(h':av):∀ (l:List Nat) (b:Nat) (f:Fs) (x:Nat) (o:Obj),(bz f (dy R h' b l)).heap x=some o ->
  (∃ k o0,l[k]?=some x/\get h' (b+k)=some o0/\o=ir R o0)\/(x∉l/\f.heap x=some o)
 | [],b,f,x,o,h=>.inr ⟨by simp,h⟩
 | k::r,b,f,x,o,h=>by
  simp only[dy,bz]at h;rcases wo R h' r (b+1) _ x o h with⟨j,o0,h1,h2,h3⟩|⟨h1,h2⟩
  ·exact .inl ⟨j+1,o0,by simpa using h1,by rw[show b+(j+1)=b+1+j by omega];exact h2,h3⟩
  ·by_cases hx:x=k
   ·subst hx
    left;split at h2
    ·rename_i o0 ho
     simp only[dN,if_true,Option.some.injEq]at h2;exact⟨0,o0,by simp,ho,h2.symm⟩
    ·simp[dN]at h2
   ·right
    refine⟨by simp[hx,h1],?_⟩;split at h2
    ·simpa[dN,hx]using h2
    ·simpa[dN,hx]using h2
theorem nr(R:Nat->Nat)(h':av):∀ (l:List Nat) (b:Nat) (f:Fs),(bz f (dy R h' b l)).env=f.env
 | [],b,f=>rfl
 | k::r,b,f=>by
  simp only[dy,bz];rw[nr R h' r];split<;>rfl
theorem y0(R:Nat->Nat)(h':av):∀ (l:List Nat) (f:Fs) (x:Nat) (o:Obj),(∀ i∈l,(get h' i).isSome)->(bz f (fZ R h' l)).heap x=some o ->
  (∃ i o0,i∈l/\x=R i/\get h' i=some o0/\o=ir R o0)\/(x∉l.map R/\f.heap x=some o)
 | [],f,x,o,_,h=>.inr ⟨by simp,h⟩
 | k::r,f,x,o,hl,h=>by
  simp only[fZ,bz]at h;rcases y0 R h' r _ x o (fun i hi=>hl i (List.mem_cons_of_mem _ hi)) h with⟨i,o0,h1,h2,h3⟩|⟨h1,h2⟩
  ·exact .inl ⟨i,o0,List.mem_cons_of_mem _ h1,h2,h3⟩
  ·obtain⟨o0,ho⟩:=Option.isSome_iff_exists.1 (hl k (List.mem_cons_self ..))
   simp only[ho,dN]at h2;by_cases hx:x=R k
   ·subst hx
    simp only[if_true,Option.some.injEq]at h2;exact .inl ⟨k,o0,List.mem_cons_self ..,rfl,ho,h2.symm⟩
   ·exact .inr ⟨by simpa[hx]using h1,by simpa[hx]using h2⟩
theorem qx(R:Nat->Nat)(h':av):∀ (l:List Nat) (f:Fs),(bz f (fZ R h' l)).env=f.env
 | [],f=>rfl
 | k::r,f=>by
  simp only[fZ,bz];rw[qx R h' r];split<;>rfl
theorem rZ:∀ {h:av} {i:Nat},i∈cq h->(get h i).isSome
 | [],i,h=>by cases h
 | (k,p)::r,i,h=>by
  simp only[get];split
  ·rfl
  ·rename_i hk
   refine rZ ?_;simp only[cq]at h;split at h
   ·exact h
   ·rcases List.mem_cons.1 h with rfl|h
    ·simp at hk
    ·exact h
end Go.PX
