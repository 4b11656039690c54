import Derived.Test.YtmbefpmbnhdbpaaGreatDoorPxF
import Derived.RangeFuncLeaves
import Derived.RangeFuncRecord
set_option linter.all false
namespace Go.PX
open Go.RowKit
def sE(f:V->V)(R:Nat->Nat->Prop):Prop:=∀ v x y,mR v=some y->iC (f v) x->R y x
mutual
theorem nG{f:V->V}{R:Nat->Nat->Prop}(hf:sE f R):∀ (v:V) (x:Nat),iC (aL f v) x -> ∃ y,iC v y/\R y x
 | .d _,_,h=>h.elim
 | .agg cs,x,h=>iR hf cs x h
 | .tup cs,x,h=>iR hf cs x h
 | .clo _ cs,x,h=>iR hf cs x h
 | .ptr i off,x,h=>⟨i,rfl,hf _ x i rfl h⟩
 | .ep i sz j off,x,h=>⟨i,rfl,hf _ x i rfl h⟩
 | .sl i sz off len,x,h=>⟨i,rfl,hf _ x i rfl h⟩
 | .mp i,x,h=>⟨i,rfl,hf _ x i rfl h⟩
 | .it i,x,h=>⟨i,rfl,hf _ x i rfl h⟩
 | .yld,_,h=>h.elim
 | .unk,_,h=>h.elim
theorem iR{f:V->V}{R:Nat->Nat->Prop}(hf:sE f R):∀ (vs:List V) (x:Nat),bZ (dE f vs) x -> ∃ y,bZ vs y/\R y x
 | [],_,h=>h.elim
 | v::r,x,h=>by
  rcases h with h|h
  ·obtain⟨y,h1,h2⟩:=nG hf v x h;exact⟨y,.inl h1,h2⟩
  ·obtain⟨y,h1,h2⟩:=iR hf r x h;exact⟨y,.inr h1,h2⟩
end
theorem r4{f:V->V}{R:Nat->Nat->Prop}(hf:sE f R)(o:Obj)(x:Nat)(h:lW (Obj.aL f o) x):∃ y,lW o y/\R y x:=by
 cases o with
 | box c=>cases c with
  | dd l=>exact(fv l x h).elim
  | vv l=>exact iR hf l x h
 | arr sz es=>cases es with
  | dd l=>
   exfalso;have h:bZ (aG l).flatten x:=h;rw[dt]at h;exact fv _ x h
  | vv l=>
   have h:bZ (aU f l).flatten x:=h;rw[gw]at h;exact iR hf l.flatten x h
 | map cJ=>exact h.elim
 | iter s n=>exact h.elim
 | buf t s=>exact h.elim
 | tb t l=>exact iR hf l x h
 | mit v n l u=>exact nG hf v x h
theorem wN(k:Nat):sE (bf k) fun y x=>x=y/\x≠k:=by
 intro v x y hy h;simp only[bf,hy]at h;split at h
 ·exact h.elim
 ·rename_i hk
  have Nt:x=y:=by
   cases v<;>simp only[mR,Option.some.injEq]at hy<;>first|(cases hy;done)|skip
   all_goals (subst hy;exact(show _=_ from h).symm)
  subst Nt;exact⟨rfl,by rintro rfl;simp at hk⟩
theorem HT(i j:Nat):sE (iH i j) fun y x=>(y=i/\x=j)\/(y≠i/\x=y):=by
 intro v x y hy h;cases v<;>simp only[mR,Option.some.injEq]at hy<;>first|(cases hy;done)|skip
 all_goals
  subst hy;simp only[iH]at h;split at h
  ·rename_i hk
   exact .inl ⟨Nat.eq_of_beq_eq_true hk,(show _=_ from h).symm⟩
  ·rename_i hk
   exact .inr ⟨by rintro rfl;simp at hk,(show _=_ from h).symm⟩
mutual
theorem bg.move{yv:Option Nat}{L L':Loc}{F:Nat->Nat}{w:World}{i j:Nat}(hj:L'.ρ j=L.ρ i/\L'.κ j=L.κ i)(hx:∀ x,x≠j->L'.ρ x=L.ρ x/\L'.κ x=L.κ x):∀ (v:V) (x:Value),¬ iC v j->bg yv L F w v x->bg yv L' F w (aL (iH i j) v) x
 | .d v,_,_,hr=>hr
 | .agg cs,_,hn,hr=>by
  obtain⟨l,rfl,hl⟩:=hr;exact⟨l,rfl,aq.move hj hx cs _ hn hl⟩
 | .tup cs,_,hn,hr=>by
  obtain⟨l,rfl,hl⟩:=hr;exact⟨l,rfl,aq.move hj hx cs _ hn hl⟩
 | .ptr id off,x,hn,hr=>by
  have hr:x = .pointer (some ⟨L.ρ id,off,none⟩):=hr;have hid:id≠j:=hn;simp only[aL,iH];cases h:Nat.beq id i
  ·show x = .pointer (some ⟨L'.ρ id,off,none⟩)
   rw[(hx id hid).1];exact hr
  ·have:=Nat.eq_of_beq_eq_true h;subst this
   show x = .pointer (some ⟨L'.ρ j,off,none⟩);rw[hj.1];exact hr
 | .ep id sz k off,x,hn,hr=>by
  have hr:x = .pointer (some ⟨L.ρ id,k*sz+off,none⟩):=hr;have hid:id≠j:=hn;simp only[aL,iH];cases h:Nat.beq id i
  ·show x = .pointer (some ⟨L'.ρ id,k*sz+off,none⟩)
   rw[(hx id hid).1];exact hr
  ·have:=Nat.eq_of_beq_eq_true h;subst this
   show x = .pointer (some ⟨L'.ρ j,k*sz+off,none⟩);rw[hj.1];exact hr
 | .sl id sz off len,x,hn,hr=>by
  obtain⟨a,cap,rfl,hl,hs,hc⟩:=hr;have hid:id≠j:=hn;simp only[aL,iH];cases h:Nat.beq id i
  ·refine⟨a,cap,rfl,hl,hs,?_⟩
   rw[(hx id hid).1,(hx id hid).2];exact hc
  ·have:=Nat.eq_of_beq_eq_true h;subst this
   refine⟨a,cap,rfl,hl,hs,?_⟩;rw[hj.1,hj.2];exact hc
 | .mp id,x,hn,hr=>by
  have hr:x = .map (some (L.ρ id)):=hr;have hid:id≠j:=hn;simp only[aL,iH];cases h:Nat.beq id i
  ·show x = .map (some (L'.ρ id))
   rw[(hx id hid).1];exact hr
  ·have:=Nat.eq_of_beq_eq_true h;subst this
   show x = .map (some (L'.ρ j));rw[hj.1];exact hr
 | .it id,x,hn,hr=>by
  have hr:x = .pointer (some ⟨L.ρ id,0,none⟩):=hr;have hid:id≠j:=hn;simp only[aL,iH];cases h:Nat.beq id i
  ·show x = .pointer (some ⟨L'.ρ id,0,none⟩)
   rw[(hx id hid).1];exact hr
  ·have:=Nat.eq_of_beq_eq_true h;subst this
   show x = .pointer (some ⟨L'.ρ j,0,none⟩);rw[hj.1];exact hr
 | .clo f cs,_,hn,hr=>by
  obtain⟨l,rfl,hl⟩:=hr;exact⟨l,rfl,aq.move hj hx cs _ hn hl⟩
 | .yld,_,_,hr=>hr
 | .unk,_,_,hr=>hr
theorem aq.move{yv:Option Nat}{L L':Loc}{F:Nat->Nat}{w:World}{i j:Nat}(hj:L'.ρ j=L.ρ i/\L'.κ j=L.κ i)(hx:∀ x,x≠j->L'.ρ x=L.ρ x/\L'.κ x=L.κ x):∀ (vs:List V) (l:List Value),¬ bZ vs j->aq yv L F w vs l->aq yv L' F w (dE (iH i j) vs) l
 | [],_,_,hr=>hr
 | v::r,_,hn,hr=>by
  simp only[bZ,not_or]at hn;obtain⟨x,l',rfl,hv,hl⟩:=hr;exact⟨x,l',rfl,bg.move hj hx v x hn.1 hv,aq.move hj hx r l' hn.2 hl⟩
end
section
variable {yv : Option Nat} {L L' : Loc} {F : Nat -> Nat} {w : World} {i j : Nat}
theorem cb.move(hj:L'.ρ j=L.ρ i/\L'.κ j=L.κ i)(hx:∀ x,x≠j->L'.ρ x=L.ρ x/\L'.κ x=L.κ x){id oA:Nat}(hid:L'.ρ oA=L.ρ id/\L'.κ oA=L.κ id)(o:Obj)(hn:¬ lW o j)
  (h:cb yv L F w id o):cb yv L' F w oA (Obj.aL (iH i j) o):=by
 cases o with
 | box c=>
  cases c with
  | dd l=>
   obtain⟨c,T,hc,hr⟩:=h;exact⟨c,T,by rw[hid.1];exact hc,aq.inj.2 (aq.inj.1 hr)⟩
  | vv l=>
   obtain⟨c,T,hc,hr⟩:=h;exact⟨c,T,by rw[hid.1];exact hc,aq.move hj hx _ _ hn hr⟩
 | arr sz es=>
  cases es with
  | dd l=>
   obtain⟨hs,hl,h⟩:=h;refine⟨hs,hl,?_⟩;rcases h with⟨h,hk⟩|⟨c,T,hc,hk,kM,hr⟩
   ·exact .inl ⟨h,by rw[hid.2];exact hk⟩
   ·refine .inr ⟨c,T,by rw[hid.1];exact hc,by rw[hid.2];exact hk,kM,?_⟩
    have hr:aq yv L F w (aG l).flatten _:=hr;show aq yv L' F w (aG l).flatten _;rw[dt]at hr ⊢;exact aq.inj.2 (aq.inj.1 hr)
  | vv l=>
   obtain⟨hs,hl,h⟩:=h;refine⟨hs,?_,?_⟩
   ·intro e he
    obtain⟨e0,h0,rfl⟩:=vB _ _ _ he;rw[jU];exact hl e0 h0
   ·rcases h with⟨h,hk⟩|⟨c,T,hc,hk,kM,hr⟩
    ·left
     have h:l = []:=h;subst h;exact⟨rfl,by rw[hid.2];exact hk⟩
    ·right
     refine⟨c,T,by rw[hid.1];exact hc,by rw[hid.2];exact hk,?_,?_⟩
     ·show(aU _ l).length*sz<=_
      rw[gT];exact kM
     ·show aq yv L' F w (aU _ l).flatten (c.toList.take ((aU _ l).length*sz))
      rw[gT,gw];exact aq.move hj hx _ _ hn hr
 | map cJ=>obtain⟨en,c,hc,hr⟩:=h;exact⟨en,c,by rw[hid.1];exact hc,hr⟩
 | iter s n=>
  show w.heap[L'.ρ oA]?=_;rw[hid.1];exact h
 | buf t s=>
  obtain⟨c,h1,h2,h3⟩:=h;exact⟨c,by rw[hid.1];exact h1,by rw[hid.2];exact h2,h3⟩
 | tb t l=>
  obtain⟨c,hc,hr⟩:=h;exact⟨c,by rw[hid.1];exact hc,aq.move hj hx _ _ hn hr⟩
 | mit v n l u=>
  obtain⟨r,seen,h1,h2,h3⟩:=h;exact⟨r,seen,bg.move hj hx _ _ hn h1,by rw[hid.1];exact h2,h3⟩
theorem nU{f:V->V}{id oA:Nat}(hk:L'.κ oA=L.κ id)(o:Obj):aV L' oA (Obj.aL f o)↔aV L id o:=by
 cases o with
 | box c=>cases c<;>exact Iff.rfl
 | arr sz es=>cases es<;>simp[Obj.aL,aV,hk]
 | map cJ=>exact Iff.rfl
 | iter s n=>exact Iff.rfl
 | buf t s=>exact Iff.rfl
 | tb t l=>exact Iff.rfl
 | mit v n l u=>exact Iff.rfl
theorem ux(h:Heap)(hj:get h j=none)(x:Nat):get (nD i j h) x=if x=j then (get h i).map (Obj.aL (iH i j)) else if x=i then none else (get h x).map (Obj.aL (iH i j)):=by
 induction h with
 | nil=>simp[nD,get]
 | cons kv r ih=>
  obtain⟨k,o⟩:=kv;have Hw:k≠j:=by rintro rfl;simp[get]at hj
  have ZF:Nat.beq k j=false:=by rw[Bool.eq_false_iff];exact fun e=>Hw (Nat.eq_of_beq_eq_true e)
  have DB:get r j=none:=by simpa[get,ZF]using hj
  simp only[nD]
  cases hk:Nat.beq k i with
  | true=>
   have:=Nat.eq_of_beq_eq_true hk;subst this;simp only[get];by_cases hx:x=j
   ·subst hx;simp
   ·have hjx:Nat.beq j x=false:=by rw[Bool.eq_false_iff];exact fun e=>hx (Nat.eq_of_beq_eq_true e).symm
    simp only[hjx,ih DB,hx,if_false];by_cases Vm:x=k
    ·subst Vm;simp
    ·have:Nat.beq k x=false:=by rw[Bool.eq_false_iff];exact fun e=>Vm (Nat.eq_of_beq_eq_true e).symm
     simp[Vm,this]
  | false=>
   have Nn:k≠i:=by rintro rfl;simp at hk
   simp only[get]
   cases DD:Nat.beq k x with
   | true=>
    have:=Nat.eq_of_beq_eq_true DD;subst this;simp[Hw,Nn]
   | false=>simp only[ih DB,hk]
end
section
variable {σ : Type} {cx : Cx σ} {r : Option Nat} {m : List Nat} {L : Loc} {F : Nat -> Nat} {a : Act} {w : World} {e : Env} {h : Heap} {s : σ}
theorem Good.kill(hh:Good cx r m L F ⟨e,h,s⟩ a w)(d:Nat):Good cx r m L F ⟨cZ (aL (bf d)) e,cZ (Obj.aL (bf d)) h,s⟩ a w:=by
 have hg:∀ i o',get (cZ (Obj.aL (bf d)) h) i=some o' -> ∃ o0,get h i=some o0/\o'=Obj.aL (bf d) o0:=by
  intro i o' hi;rw[bY]at hi
  cases h0:get h i with
  | none=>simp[h0]at hi
  | some o0=>simp[h0]at hi;exact⟨o0,rfl,hi.symm⟩
 refine⟨⟨hh.heap.hg,hh.heap.iw,hh.heap.fresh,?_,?_,?_⟩,?_,hh.sR,hh.pg,hh.vD,hh.lk,hh.jy,hh.ud⟩
 ·intro i o' hi
  obtain⟨o0,h0,rfl⟩:=hg i o' hi;exact cb.kill d i o0 (hh.heap.obj i o0 h0)
 ·intro i o' hi hb
  obtain⟨o0,h0,rfl⟩:=hg i o' hi;exact hh.heap.own i o0 h0 ((eT L d i o0).1 hb)
 ·intro i j o' p hi hj mq jx he
  obtain⟨o0,h0,rfl⟩:=hg i o' hi;obtain⟨p0,wb,rfl⟩:=hg j p hj;exact hh.heap.inj i j o0 p0 h0 wb ((eT L d i o0).1 mq) ((eT L d j p0).1 jx) he
 ·intro t v ht
  simp only[bY]at ht
  cases h0:get e t with
  | none=>simp[h0]at ht
  | some v0=>
   simp[h0]at ht;subst ht;obtain⟨x,hx,hr⟩:=hh.env t v0 h0;exact⟨x,hx,bg.kill d v0 x hr⟩
theorem Good.move(hh:Good cx r m L F ⟨e,h,s⟩ a w){i j:Nat}(wc:¬ pinned j)(mW:i≠j)(hu:rF ⟨get e,get h⟩ j) :
  Good cx r m ⟨fun x=>if x=j then L.ρ i else L.ρ x,fun x=>if x=j then L.κ i else L.κ x⟩ F ⟨cZ (aL (iH i j)) e,nD i j h,s⟩ a w:=by
 have hj:((⟨fun x=>if x=j then L.ρ i else L.ρ x,fun x=>if x=j then L.κ i else L.κ x⟩:Loc).ρ j=L.ρ i/\(⟨fun x=>if x=j then L.ρ i else L.ρ x,fun x=>if x=j then L.κ i else L.κ x⟩:Loc).κ j=L.κ i):=by simp
 have hx:∀ x,x≠j->((⟨fun x=>if x=j then L.ρ i else L.ρ x,fun x=>if x=j then L.κ i else L.κ x⟩:Loc).ρ x=L.ρ x/\(⟨fun x=>if x=j then L.ρ i else L.ρ x,fun x=>if x=j then L.κ i else L.κ x⟩:Loc).κ x=L.κ x):=by
  intro x hx;simp[hx]
 generalize (⟨fun x=>if x=j then L.ρ i else L.ρ x,fun x=>if x=j then L.κ i else L.κ x⟩:Loc)=L' at hj hx ⊢;have hg:∀ x o',get (nD i j h) x=some o' -> ∃ y o0,get h y=some o0/\o'=Obj.aL (iH i j) o0/\(L'.ρ x=L.ρ y/\L'.κ x=L.κ y)/\((x=j/\y=i)\/(x≠j/\x≠i/\y=x)):=by
  intro x o' hi;rw[ux h hu.none]at hi;split at hi
  ·rename_i e1;subst e1
   cases h0:get h i with
   | none=>simp[h0]at hi
   | some o0=>simp[h0]at hi;exact⟨i,o0,h0,hi.symm,hj,.inl ⟨rfl,rfl⟩⟩
  ·rename_i e1
   split at hi
   ·cases hi
   ·rename_i e2
    cases h0:get h x with
    | none=>simp[h0]at hi
    | some o0=>simp[h0]at hi;exact⟨x,o0,h0,hi.symm,hx x e1,.inr ⟨e1,e2,rfl⟩⟩
 refine⟨⟨hh.heap.hg,hh.heap.iw,hh.heap.fresh,?_,?_,?_⟩,?_,hh.sR,hh.pg,hh.vD,hh.lk,fun x hp=>by
  have P8:x≠j:=by rintro rfl;exact wc hp
  rw[(hx x P8).1,(hx x P8).2];exact hh.jy x hp,hh.ud⟩
 ·intro x o' hi
  obtain⟨y,o0,h0,rfl,hl,_⟩:=hg x o' hi;exact cb.move hj hx hl o0 (hu.heap y o0 h0) (hh.heap.obj y o0 h0)
 ·intro x o' hi hb
  obtain⟨y,o0,h0,rfl,hl,_⟩:=hg x o' hi;rw[hl.1];exact hh.heap.own y o0 h0 ((nU hl.2 o0).1 hb)
 ·intro x x' o' p hi DB mq jx he
  obtain⟨y,o0,h0,rfl,hl,hy⟩:=hg x o' hi;obtain⟨z,p0,wb,rfl,kM,hz⟩:=hg x' p DB;rw[hl.1,kM.1]at he;have:=hh.heap.inj y z o0 p0 h0 wb ((nU hl.2 o0).1 mq) ((nU kM.2 p0).1 jx) he;rcases hy with⟨rfl,rfl⟩|⟨h1,h2,rfl⟩<;>rcases hz with⟨rfl,rfl⟩|⟨h3,h4,rfl⟩
  ·rfl
  ·exact absurd this.symm h4
  ·exact absurd this h2
  ·exact this
 ·intro t v ht
  simp only[bY]at ht
  cases h0:get e t with
  | none=>simp[h0]at ht
  | some v0=>
   simp[h0]at ht;subst ht;obtain⟨x,jT,hr⟩:=hh.env t v0 h0;exact⟨x,jT,bg.move hj hx v0 x (hu.env t v0 h0) hr⟩
theorem BA{K:Env->Heap->Prop}:∀ (l:List Nat) {L:Loc} {e:Env} {h:Heap},(∀ d∈l,d<500000)->Good cx r m L F ⟨e,h,s⟩ a w->sK l e h K -> ∀ (B:Nat->Prop),(∀ d,B d->d<500000/\rF ⟨get e,get h⟩ d) ->
  ∃ e' h' L',K e' h'/\Good cx r m L' F ⟨e',h',s⟩ a w /\ ∀ d,d∈l\/B d->rF ⟨get e',get h'⟩ d
 | [],L,e,h,_,hg,hk,B,hB=>⟨e,h,L,hk,hg,fun d hd=>(hd.elim (fun h=>by cases h) fun h=>(hB d h).2)⟩
 | d::l,L,e,h,hl,hg,hk,B,hB=>by
  have hd:d<500000:=hl d (List.mem_cons_self ..);have kill:∀ k (e:Env) (h:Heap),(∀ x,rF ⟨get e,get h⟩ x->rF ⟨get (cZ (aL (bf k)) e),get (cZ (Obj.aL (bf k)) h)⟩ x) /\
    (get h k=none->rF ⟨get (cZ (aL (bf k)) e),get (cZ (Obj.aL (bf k)) h)⟩ k):=by
   intro k e h;have hn:∀ x,(get h x=none)->(∀ y,x=y/\x≠k->¬ (∃ s v,get e s=some v/\iC v y)/\¬ (∃ s v,get h s=some v/\lW v y))->rF ⟨get (cZ (aL (bf k)) e),get (cZ (Obj.aL (bf k)) h)⟩ x:=by
    intro x h0 hy;refine⟨by simp[bY,h0],fun t v ht ym=>?_,fun t o ht ym=>?_⟩
    ·simp only[bY]at ht
     cases h1:get e t with
     | none=>simp[h1]at ht
     | some v0=>
      simp[h1]at ht;subst ht;obtain⟨y,h2,h3⟩:=nG (wN k) v0 x ym;exact(hy y h3).1 ⟨t,v0,h1,h2⟩
    ·simp only[bY]at ht
     cases h1:get h t with
     | none=>simp[h1]at ht
     | some v0=>
      simp[h1]at ht;subst ht;obtain⟨y,h2,h3⟩:=r4 (wN k) v0 x ym;exact(hy y h3).2 ⟨t,v0,h1,h2⟩
   refine⟨fun x hx=>hn x hx.none fun y hy=>?_,fun h0=>hn k h0 fun y hy=>absurd rfl hy.2⟩;obtain⟨rfl,_⟩:=hy;exact⟨fun⟨t,v,h1,h2⟩=>hx.env t v h1 h2,fun⟨t,v,h1,h2⟩=>hx.heap t v h1 h2⟩
  have next:∀ (e2:Env) (h2:Heap) (L2:Loc),Good cx r m L2 F ⟨e2,h2,s⟩ a w->rF ⟨get e2,get h2⟩ d->(∀ x,B x->rF ⟨get e2,get h2⟩ x)->sK l e2 h2 K ->
    ∃ e' h' L',K e' h'/\Good cx r m L' F ⟨e',h',s⟩ a w /\ ∀ x,x∈d::l\/B x->rF ⟨get e',get h'⟩ x:=by
   intro e2 h2 L2 gC hu2 Up gu;obtain⟨e',h',L',k1,k2,k3⟩:=BA l (fun x hx=>hl x (List.mem_cons_of_mem _ hx)) gC gu (fun x=>x=d\/B x) (fun x hx=>by
    rcases hx with rfl|hx
    ·exact⟨hd,hu2⟩
    ·exact⟨(hB x hx).1,Up x hx⟩)
   refine⟨e',h',L',k1,k2,fun x hx=>k3 x ?_⟩;rcases hx with hx|hx
   ·rcases List.mem_cons.1 hx with rfl|hx
    ·exact .inr (.inl rfl)
    ·exact .inl hx
   ·exact .inr (.inr hx)
  have hk:(match get h d with
   | none=>eB (cZ (aL (bf d)) e) fun e=>iA (cZ (Obj.aL (bf d)) h) fun h=>sK l e h K
   | some _=>eB (cZ (aL (iH d (500000+d))) (cZ (aL (bf (500000+d))) e)) fun e=>
    iA (nD d (500000+d) (cZ (Obj.aL (bf (500000+d))) (cut h (500000+d)))) fun h=>sK l e h K):=hk
  split at hk
  ·rename_i h0
   rw[fM,ja]at hk;exact next _ _ L (hg.kill d) ((kill d e h).2 h0) (fun x hx=>(kill d e h).1 x (hB x hx).2) hk
  ·rename_i eI _ o0 h0
   clear eI;rw[fM,ja]at hk;have eo:Good cx r m L F ⟨e,cut h (500000+d),s⟩ a w:=hg.sub (fun _ _ h=>h) fun i o hi=>by
    rw[e6]at hi;split at hi
    ·cases hi
    ·exact hi
   have gC:=eo.kill (500000+d);have hu:=(kill (500000+d) e (cut h (500000+d))).2 (by simp[e6]);have IK:∀ x,B x->rF ⟨get e,get (cut h (500000+d))⟩ x:=fun x hx=>by
    have hu:=(hB x hx).2;have ji:∀ i o,get (cut h (500000+d)) i=some o->get h i=some o:=fun i o hi=>by
     rw[e6]at hi;split at hi
     ·cases hi
     ·exact hi
    refine⟨?_,hu.env,fun i o hi=>hu.heap i o (ji i o hi)⟩
    cases hc:get (cut h (500000+d)) x with
    | none=>exact hc
    | some o=>have h1:=ji x o hc;have h2:get h x=none:=hu.none;rw[h2]at h1;cases h1
   have Up:=fun x hx=>(kill (500000+d) e (cut h (500000+d))).1 x (IK x hx);generalize cZ (aL (bf (500000+d))) e=e1 at hk gC hu Up;generalize cZ (Obj.aL (bf (500000+d))) (cut h (500000+d))=h1 at hk gC hu Up;have hu3:∀ x,x≠500000+d->(x=d\/rF ⟨get e1,get h1⟩ x)->rF ⟨get (cZ (aL (iH d (500000+d))) e1),get (nD d (500000+d) h1)⟩ x:=by
    intro x hx Od;have mX:∀ y,(y=d/\x=500000+d)\/(y≠d/\x=y)->x≠d/\x=y:=by
     rintro y (⟨_,h⟩|⟨h,rfl⟩)
     ·exact absurd h hx
     ·exact⟨h,rfl⟩
    have hux:x≠d->rF ⟨get e1,get h1⟩ x:=fun h=>Od.resolve_left h;refine⟨?_,fun t v ht ym=>?_,fun t o ht ym=>?_⟩
    ·show get (nD d (500000+d) h1) x=none
     rw[ux h1 hu.none,if_neg hx];split
     ·rfl
     ·rename_i hxd
      have:get h1 x=none:=(hux hxd).none;rw[this];rfl
    ·simp only[bY]at ht
     cases CD:get e1 t with
     | none=>simp[CD]at ht
     | some v0=>
      simp[CD]at ht;subst ht;obtain⟨y,h2,h3⟩:=nG (HT d (500000+d)) v0 x ym;obtain⟨h4,rfl⟩:=mX y h3;exact(hux h4).env t v0 CD h2
    ·have ht:get (nD d (500000+d) h1) t=some o:=ht
     rw[ux h1 hu.none]at ht;have:∃ y o0,get h1 y=some o0/\o=Obj.aL (iH d (500000+d)) o0:=by
      split at ht
      ·cases CD:get h1 d with
       | none=>simp[CD]at ht
       | some v0=>simp[CD]at ht;exact⟨d,v0,CD,ht.symm⟩
      ·split at ht
       ·cases ht
       ·cases CD:get h1 t with
        | none=>simp[CD]at ht
        | some v0=>simp[CD]at ht;exact⟨t,v0,CD,ht.symm⟩
     obtain⟨z,o0,CD,rfl⟩:=this;obtain⟨y,h2,h3⟩:=r4 (HT d (500000+d)) o0 x ym;obtain⟨h4,rfl⟩:=mX y h3;exact(hux h4).heap z o0 CD h2
   have Dz:=gC.move (i:=d) (j:=500000+d) (by unfold pinned;omega) (by omega) hu;exact next _ _ _ Dz (hu3 d (by omega) (.inl rfl)) (fun x hx=>hu3 x (by have:=(hB x hx).1;omega) (.inr (Up x hx))) hk
end
end Go.PX
namespace Go.PX
open Go.RowKit
structure zZ(P:Program)(ops:Array Oper)(gj:List OT)(q:Rec):Prop where
 op:∃ o t,ops[q.idx]?=some o/\gj[q.idx]?=some t/\q.kc=t.kc/\(∀ x∈nR q.ws,o.dst=some x)/\(∀ x v,get q.e x=some v->x∈t.ts)
 hk:∀ x v,get q.h x=some v->x∈q.os
 news:fO q.ws=true
 snd:u4 P ops q
theorem apart_spec{a b:OO}(h:apart a b=true):lB a.mo b.os=true/\lB a.mo b.mo=true/\lB b.mo a.os=true/\lB b.nw a.bQ=true:=by
 unfold apart at h;split at h
 ·rename_i h1 h2 h3 h4;exact⟨h1,h2,h3,h4⟩
 ·cases h
theorem ra{o:OO}{acc:List OO}:∀ {l:List Nat},lr o acc l=true -> ∀ i∈l,∀ p,acc[i]?=some p->apart o p=true
 | [],_,i,hi,_,_=>by cases hi
 | k::r,h,i,hi,p,hp=>by
  simp only[lr]at h;split at h;case h_2=>cases h
  rename_i p' IV;split at h;case h_2=>cases h
  rename_i Y2;rcases List.mem_cons.1 hi with rfl|hi
  ·rw[hp]at IV;cases IV;exact Y2
  ·exact ra h i hi p hp
theorem vF{mk:List Nat}:∀ {acc:List OO},r5 mk acc=true -> ∀ p∈acc,lB mk p.bQ=true/\lB mk p.mo=true
 | [],_,p,hp=>by cases hp
 | q::r,h,p,hp=>by
  simp only[r5]at h;split at h;case h_2=>cases h
  rename_i h1 h2;rcases List.mem_cons.1 hp with rfl|hp
  ·exact⟨h1,h2⟩
  ·exact vF h p hp
theorem j9{α:Type}:∀ (l:List Nat) (t:wy α) (s:Nat) (u:α),get (aX l t) s=some u->s∈l
 | l,[],s,u,h=>by cases h
 | l,(k,v)::r,s,u,h=>by
  simp only[aX]at h;split at h
  ·rename_i hk
   simp only[get]at h;split at h
   ·rename_i he;have:=Nat.eq_of_beq_eq_true he;subst this;exact il.1 hk
   ·exact j9 l r s u h
  ·exact j9 l r s u h
theorem jf{d:Option Nat}:∀ {ws:List Wr},oN d ws=true -> ∀ x∈nR ws,d=some x
 | [],_,x,hx=>by cases hx
 | w::r,h,x,hx=>by
  cases w with
  | set s v=>
   simp only[oN]at h;split at h;case h_2=>cases h
   rename_i k;split at h;case h_2=>cases h
   rename_i hk;simp only[nR,List.mem_cons]at hx;rcases hx with rfl|hx
   ·rw[Nat.eq_of_beq_eq_true hk]
   ·exact jf h x hx
  | _=>exact jf (ws:=r) h x hx
theorem K6{ops:Array Oper}{e:Env}{guard:Option (Nat×Bool)}{X Z:List Wr->Prop}(hk:mN ops.toList e guard X Z) :
  ∃ (b:Bool) (ws:List Wr),((b=true/\X ws)\/(b=false/\Z ws))/\(ws = [] \/ ∃ d v,ws = [.set d v]/\get e d=some v) /\
   ∀ {σ:Type} {cx:Cx σ} {r:Option Nat} {m:List Nat} {L:Loc} {F:Nat->Nat} {st:St σ} {a:Act} {w:World} {dst:Option Nat} {op:Op} {ty:TypeId} {pos:String} {after:Array Edge},
    dB e st.env->Good cx r m L F st a w->Region.wanted ⟨dst,op,ty,pos,after,guard⟩ (yielded ops a.tmps)=b:=by
 unfold mN at hk;split at hk
 ·exact⟨true,[],.inl ⟨rfl,hk⟩,.inl rfl,fun _ _=>rfl⟩
 ·rename_i j want
  split at hk;case h_2=>exact hk.elim
  rename_i d _ _ _ _ _ hj;have DB:(ops[j]?).bind (·.dst)=some d:=by
   rw[Array.getElem?_toList]at hj;rw[hj];rfl
  split at hk
  ·rename_i b hb
   have hy:∀ {σ:Type} {cx:Cx σ} {r:Option Nat} {m:List Nat} {L:Loc} {F:Nat->Nat} {st:St σ} {a:Act} {w:World},dB e st.env->Good cx r m L F st a w->yielded ops a.tmps j=some b:=by
    intro σ cx r m L F st a w he hg;obtain⟨x,hx,hr⟩:=hg.env d _ (he _ _ hb);have hr:x = .bool b:=hr;subst hr;unfold yielded;rw[DB];simp[hx]
   split at hk
   ·rcases sM hk with⟨rfl,hk⟩|⟨rfl,hk⟩
    ·exact⟨true,_,.inl ⟨rfl,hk⟩,.inr ⟨d,_,rfl,hb⟩,fun he hg=>by simp[Region.wanted,hy he hg]⟩
    ·exact⟨false,_,.inr ⟨rfl,hk⟩,.inr ⟨d,_,rfl,hb⟩,fun he hg=>by simp[Region.wanted,hy he hg]⟩
   ·rcases sM hk with⟨rfl,hk⟩|⟨rfl,hk⟩
    ·exact⟨false,_,.inr ⟨rfl,hk⟩,.inr ⟨d,_,rfl,hb⟩,fun he hg=>by simp[Region.wanted,hy he hg]⟩
    ·exact⟨true,_,.inl ⟨rfl,hk⟩,.inr ⟨d,_,rfl,hb⟩,fun he hg=>by simp[Region.wanted,hy he hg]⟩
  ·rename_i hb
   refine⟨false,[],.inr ⟨rfl,hk⟩,.inl rfl,fun {σ cx r m L F st a w} _ _ _ _ _ he hg=>?_⟩;obtain⟨x,hx,l,rfl,hl⟩:=hg.env d _ (he _ _ hb);have hy:yielded ops a.tmps j=none:=by
    unfold yielded;rw[DB];simp[hx]
   simp[Region.wanted,hy]
  ·exact hk.elim
theorem KX{σ:Type}{e:Env}{h:Heap}{s:σ}{ws:List Wr}(hw:ws = [] \/ ∃ d v,ws = [.set d v]/\get e d=some v):dr (aR (⟨e,h,s⟩:St σ) ws)=⟨get e,get h⟩:=by
 rcases hw with rfl|⟨d,v,rfl,hv⟩
 ·rfl
 ·simp only[dr,aR,bP]
  congr 1
  funext x
  rw[eM];split
  ·rename_i he;subst he;exact hv.symm
  ·rfl
theorem Na(P:Program)(T:e7)(made:List Nat)(ops:List Oper)(dst:Option Nat)(op:Op)(ty:TypeId)(pos:String)(after:Array Edge)(guard:Option (Nat×Bool))(ts kc:List Nat)(l:List (Oper×OT))(acc:List OO)(e:Env)(h:Heap)(K:Env->Heap->Prop) :
  GQ P T made ops ((⟨dst,op,ty,pos,after,guard⟩,⟨ts,kc⟩)::l) acc e h K=(dU (looksAt op e h ts) fun os=>eB (aX ts e) fun e'=>iA (aX os h) fun h'=>
    mN ops e' guard
     (fun w=>
      let go:=fun ws=>dU (db ws) fun mo=>dU (bR ws) fun mk=>dU (cC ws) fun bQ=>
       gH (mi dst made acc kc ws ⟨os,mo,mk,bQ⟩) (bw w e h fun e h=>bw (sk ws) e h fun e h=>GQ P T made ops l (acc ++ [⟨os,mo,mk,bQ⟩]) e h K)
      match op with
      | .call ⟨callee,args,tys⟩=>match callee with
       | .builtin b=>fj T e' h' dst b args tys go
       | .value f=>match aS e' f,dR e' args.toList with
        | some (.d (.clo g bS)),some l=>ef P e' h' dst g (l++inj bS) go
        | some (.clo g bS),some l=>ef P e' h' dst g (l++bS) go
        | _,_=>False
       | .invoke f name=>match aS e' f,dR e' args.toList with
        | some (.d (.ifc t v)),some l=>J9 P t name fun g=>ef P e' h' dst g (.d v::l) go
        | _,_=>False
      | op=>gL T e' h' dst op go)
     (fun w=>gH (lr ⟨os,[],[],[]⟩ acc kc) (bw w e h fun e h=>bw (bz dst (.d (.tup []))) e h fun e h=>GQ P T made ops l (acc ++ [⟨os,[],[],[]⟩]) e h K))):=rfl
section
variable {P : Program} {T : e7}
theorem AX{ops:Array Oper}{q:Rec}{o:Oper}(ho:ops[q.idx]?=some o)
  (hw:∀ {σ:Type} {cx:Cx σ} {r:Option Nat} {m:List Nat} {L:Loc} {F:Nat->Nat} {st:St σ} {a:Act} {w:World},dB q.e st.env->Good cx r m L F st a w->Region.wanted o (yielded ops a.tmps)=true)
  (fB:Out P q.e q.h o q.ws) (tZ:∀ c,o.op ≠ .defer c):u4 P ops q:=by
 intro σ cx yk r m L F st a w he hh hg hd next Q hn
 simp only[wpOpIn,ho];rw[if_pos (hw he hg)];exact Ej fB he hh hg (hd o ho) tZ fun x L' F' w' dp tr=>hn _ L' F' w' (fw x) dp tr
theorem Jh{ops:Array Oper}{q:Rec}{dst:Option Nat}{f:Operand}{n:String}{args:Array Operand}{tys:Array TypeId}{ty:TypeId}{pos:String}{after:Array Edge}{guard:Option (Nat×Bool)}
  (ho:ops[q.idx]?=some ⟨dst,.call ⟨.invoke f n,args,tys⟩,ty,pos,after,guard⟩)
  (hw:∀ {σ:Type} {cx:Cx σ} {r:Option Nat} {m:List Nat} {L:Loc} {F:Nat->Nat} {st:St σ} {a:Act} {w:World},dB q.e st.env->Good cx r m L F st a w->Region.wanted ⟨dst,.call ⟨.invoke f n,args,tys⟩,ty,pos,after,guard⟩ (yielded ops a.tmps)=true)
  {t:TypeId} {v:D} {g:FuncId} {l':List V} (hl:dR q.e args.toList=some l') (hf:aS q.e f=some (.d (.ifc t v)))
  (hm:∀ v w,(method (P.types.size+Made.depth) t v n).run P w = .ok (g,v) w)
  (fB:jR P q.e q.h dst g (.d v::l') q.ws):u4 P ops q:=by
 intro σ cx yk r m L F st a w he hh hg hd next Q hn
 simp only[wpOpIn,ho];rw[if_pos (hw he hg)];obtain⟨qT,ea⟩:=fB;have dp:Good cx r m L F ⟨q.e,st.heap,st.s⟩ a w:=hg.sub he (fun _ _ h=>h);obtain⟨y,dC,hv⟩:=dp.aS hf;have dx:=DS dp hl hv;have ea:=ea cx yk r m L F st a w (#[y]++args.map a.eval) he hh hg (hd _ ho) dx;refine⟨fun _ _=>trivial,?_⟩;rw[Oper.semAt_eq _ _ _ (fun c e=>by cases e),H3 hm qT dC,Oper.uponIn_enter];refine⟨(fun h=>by cases h),(jG ea).mono ?_⟩;rintro en w' ⟨x,rfl,L',F',dp,mV⟩;exact hn _ L' F' w' (fw x) dp mV
theorem yN{ops:Array Oper}{q:Rec}{dst:Option Nat}{f:Operand}{args:Array Operand}{tys:Array TypeId}{ty:TypeId}{pos:String}{after:Array Edge}{guard:Option (Nat×Bool)}
  (ho:ops[q.idx]?=some ⟨dst,.call ⟨.value f,args,tys⟩,ty,pos,after,guard⟩)
  (hw:∀ {σ:Type} {cx:Cx σ} {r:Option Nat} {m:List Nat} {L:Loc} {F:Nat->Nat} {st:St σ} {a:Act} {w:World},dB q.e st.env->Good cx r m L F st a w->Region.wanted ⟨dst,.call ⟨.value f,args,tys⟩,ty,pos,after,guard⟩ (yielded ops a.tmps)=true)
  {g:FuncId} {CY:List V} {l':List V} (hl:dR q.e args.toList=some l')
  (hf:∀ {σ:Type} {cx:Cx σ} {r:Option Nat} {m:List Nat} {L:Loc} {F:Nat->Nat} {st:St σ} {a:Act} {w:World},dB q.e st.env->Good cx r m L F st a w -> ∃ lc:Array Value,a.eval f = .func (.func g) #[] lc/\aq cx.yv L F w CY lc.toList)
  (fB:jR P q.e q.h dst g (l'++CY) q.ws):u4 P ops q:=by
 intro σ cx yk r m L F st a w he hh hg hd next Q hn
 simp only[wpOpIn,ho];rw[if_pos (hw he hg)];obtain⟨lc,dC,j7⟩:=hf he hg;obtain⟨qT,ea⟩:=fB;have wJ:∃ vs:List Value,aq cx.yv L F w l' (args.toList.map a.eval):=⟨[],by
  have dp:Good cx r m L F ⟨q.e,st.heap,st.s⟩ a w:=hg.sub he (fun _ _ h=>h);exact dp.dR hl⟩
 obtain⟨_,wJ⟩:=wJ;have dx:aq cx.yv L F w (l'++CY) (args.map a.eval++lc).toList:=by
  simpa using wJ.append j7
 have ea:=ea cx yk r m L F st a w (args.map a.eval++lc) he hh hg (hd _ ho) dx;have bN:(execOp a.eval ⟨dst,.call ⟨.value f,args,tys⟩,ty,pos,after,guard⟩).run P w = .ok (.enter g (args.map a.eval++lc)) w:=by
  simp[execOp,resolve,Deferred.ofValue,dC,invoke,qT]
 refine⟨fun _ _=>trivial,?_⟩;rw[Oper.semAt_eq _ _ _ (fun c e=>by cases e),bN,Oper.uponIn_enter];refine⟨(fun h=>by cases h),(jG ea).mono ?_⟩;rintro en w' ⟨x,rfl,L',F',dp,mV⟩;exact hn _ L' F' w' (fw x) dp mV
theorem Gc{ops:Array Oper}{q:Rec}{o:Oper}(ho:ops[q.idx]?=some o)(B3:q.ws=bz o.dst (.d (.tup [])))
  (hw:∀ {σ:Type} {cx:Cx σ} {r:Option Nat} {m:List Nat} {L:Loc} {F:Nat->Nat} {st:St σ} {a:Act} {w:World},dB q.e st.env->Good cx r m L F st a w->Region.wanted o (yielded ops a.tmps)=false):u4 P ops q:=by
 intro σ cx yk r m L F st a w he hh hg hd next Q hn
 simp only[wpOpIn,ho];rw[if_neg (by rw[hw he hg];simp)];refine⟨fun _ _=>trivial,?_⟩;refine hn _ L F w (fw _) ?_ (Tr.refl F w);rw[B3];exact hg.bz (x:=undef) (hd o ho) ⟨#[],rfl,rfl⟩
theorem Nb(hT:bA P T){ops:Array Oper}{gj:List OT}{made:List Nat}(ox:tH ops.toList gj ops.toList gj=true):∀ (l:List (Oper×OT)) (acc:List Rec),(∀ j p,l[j]?=some p->ops[acc.length+j]?=some p.1/\gj[acc.length+j]?=some p.2) ->
  (∀ k q,acc[k]?=some q->q.idx=k/\zZ P ops gj q)->acc.Pairwise Pr -> ∀ {e:Env} {h:Heap} {K:Env->Heap->Prop},GQ P T made ops.toList l (acc.map Rec.oo) e h K ->
  ∃ (R:List Rec) (eN:Env) (hN:Heap),K eN hN/\qN R ⟨get e,get h⟩ ⟨get eN,get hN⟩/\R.length=l.length/\(∀ k q,(acc++R)[k]?=some q->q.idx=k/\zZ P ops gj q)/\(acc++R).Pairwise Pr /\ ∀ q∈R,∀ x∈bR q.ws,x∈made
 | [],acc,_,dn,uG,e,h,K,hk=>⟨[],e,h,hk,rfl,rfl,by simpa using dn,by simpa using uG,fun q hq=>by cases hq⟩
 | (⟨dst,op,ty,pos,after,guard⟩,⟨ts,kc⟩)::l,acc,hl,dn,uG,e,h,K,hk=>by
  obtain⟨ho,JY⟩:=hl 0 (⟨dst,op,ty,pos,after,guard⟩,⟨ts,kc⟩) rfl;simp only[Nat.add_zero]at ho JY;have kM:∀ j p,l[j]?=some p->ops[acc.length+1+j]?=some p.1/\gj[acc.length+1+j]?=some p.2:=fun j p hp=>by
   have:=hl (j+1) p (by simpa using hp)
   rwa [show acc.length+(j+1)=acc.length+1+j by omega]at this
  rw[Na]at hk;rw[nj,fM,ja]at hk;generalize SJ:looksAt op e h ts=os at hk;obtain⟨b,lw,UC,FB,AK⟩:=K6 hk;clear hk;have Oa:lw = [] \/ ∃ d v,lw = [.set d v]/\get e d=some v:=FB.imp id fun⟨d,v,h1,h2⟩=>⟨d,v,h1,ez ts e d v h2⟩;have rest:∀ (ws:List Wr),fO ws=true->oN dst ws=true->(∀ x∈bR ws,x∈made)->lr ⟨os,db ws,bR ws,cC ws⟩ (acc.map Rec.oo) kc=true->r5 (bR ws) (acc.map Rec.oo)=true ->
    u4 P ops ⟨acc.length,aX ts e,aX os h,os,ws,kc⟩->(bw lw e h fun e h=>bw (sk ws) e h fun e h=>GQ P T made ops.toList l (acc.map Rec.oo ++ [⟨os,db ws,bR ws,cC ws⟩]) e h K) ->
    ∃ (R:List Rec) (eN:Env) (hN:Heap),K eN hN/\qN R ⟨get e,get h⟩ ⟨get eN,get hN⟩/\R.length=l.length+1/\(∀ k q,(acc++R)[k]?=some q->q.idx=k/\zZ P ops gj q)/\(acc++R).Pairwise Pr /\ ∀ q∈R,∀ x∈bR q.ws,x∈made:=by
   intro ws Lw HC vt Y2 tf RF hk;rw[cU (),cU ()]at hk;have JV:=KX (s:=()) (h:=h) Oa;generalize (aR (⟨e,h,()⟩:St Unit) lw)=tR at hk JV;have UM:=Dp ws (⟨tR.env,tR.heap,()⟩:St Unit);generalize (aR (⟨tR.env,tR.heap,()⟩:St Unit) (sk ws))=o7 at hk UM;have Zs:(⟨get o7.env,get o7.heap⟩:Fs)=cA ⟨get e,get h⟩ ws:=by
    rw[<- JV];exact UM
   have hq:zZ P ops gj ⟨acc.length,aX ts e,aX os h,os,ws,kc⟩:=
    ⟨⟨_,_,ho,JY,rfl,jf HC,fun x v hx=>j9 ts e x v hx⟩,fun x v hx=>j9 os h x v hx,Lw,RF⟩
   have Nq:∀ p∈acc,Pr p ⟨acc.length,aX ts e,aX os h,os,ws,kc⟩:=by
    intro p hp;obtain⟨k,jj,PU⟩:=List.mem_iff_getElem.1 hp;have UU:acc[k]?=some p:=by rw[List.getElem?_eq_getElem jj,PU]
    obtain⟨N5,U6⟩:=dn k p UU;have iP:p.oo∈acc.map Rec.oo:=List.mem_map.2 ⟨p,hp,rfl⟩;obtain⟨FD,E1⟩:=vF tf p.oo iP;have FD:=ij FD;have E1:=ij E1;refine⟨by show p.idx<acc.length;omega,fun fF=>?_,FD,E1⟩;have fF:p.idx∈kc:=fF;have ha:=apart_spec (ra Y2 p.idx fF p.oo (by rw[N5,List.getElem?_map,UU];rfl));have a1:=ij ha.1;have a2:=ij ha.2.1;have a3:=ij ha.2.2.1;have a4:=ij ha.2.2.2;obtain⟨po,pt,U5,hpt,aa8,FF,Rt⟩:=U6.op;obtain⟨o1,t1,Rq,RL,d1,d2,d3⟩:=vI (tI ox acc.length _ _ (by simpa using ho) JY) p.idx fF;have U0:ops[p.idx]?=some o1:=by simpa using Rq
    rw[U5]at U0;cases U0;rw[hpt]at RL;cases RL;have wP:∀ {α:Type} {t:wy α} {x:Nat},(∀ v,get t x=some v->False)->get t x=none:=by
     intro α t x hx
     cases hc:get t x with
     | none=>rfl
     | some v=>exact(hx v hc).elim
    refine⟨⟨fun x hx=>?_,fun x hx=>?_,fun x hx jT=>?_,fun x hx jT=>?_,fun x hx=>a4 x hx⟩,⟨fun x hx=>?_,fun x hx=>?_,fun x hx jT=>?_,fun x hx jT=>?_,fun x hx=>FD x hx⟩⟩
    ·exact wP fun v hv=>d1 x (FF x hx) (j9 ts e x v hv)
    ·exact wP fun v hv=>a3 x hx (j9 os h x v hv)
    ·exact d3 x (FF x hx) (jf HC x jT)
    ·exact a2 x jT hx
    ·exact wP fun v hv=>d2 x (jf HC x hx) (Rt x v hv)
    ·exact wP fun v hv=>a1 x hx (U6.hk x v hv)
    ·exact d3 x (FF x jT) (jf HC x hx)
    ·exact a2 x hx jT
   have Uv:∀ k q,(acc ++ [(⟨acc.length,aX ts e,aX os h,os,ws,kc⟩:Rec)])[k]?=some q->q.idx=k/\zZ P ops gj q:=by
    intro k q zu;rcases Nat.lt_trichotomy k acc.length with dN|heq|SG
    ·rw[List.getElem?_append_left dN]at zu
     exact dn k q zu
    ·subst heq
     simp at zu;subst zu;exact⟨rfl,hq⟩
    ·rw[List.getElem?_eq_none (by simp;omega)]at zu
     cases zu
   have ZW:(acc ++ [(⟨acc.length,aX ts e,aX os h,os,ws,kc⟩:Rec)]).Pairwise Pr:=
    List.pairwise_append.2 ⟨uG,List.pairwise_singleton _ _,fun x hx y hy=>by
     rcases List.mem_singleton.1 hy with rfl;exact Nq x hx⟩
   obtain⟨R,eN,hN,k1,k2,k3,k4,k5,k6⟩:=Nb hT ox l (acc ++ [⟨acc.length,aX ts e,aX os h,os,ws,kc⟩]) (by simpa using kM) Uv ZW (e:=o7.env) (h:=o7.heap) (K:=K) (by simpa[Rec.oo]using hk);refine⟨⟨acc.length,aX ts e,aX os h,os,ws,kc⟩::R,eN,hN,k1,⟨⟨fun s v hs=>ez ts e s v hs,fun s v hs=>ez os h s v hs⟩,?_⟩,by simp[k3],?_,?_,?_⟩
   ·rw[<- Zs];exact k2
   ·simpa using k4
   ·simpa using k5
   ·intro q hq x hx
    rcases List.mem_cons.1 hq with rfl|hq
    ·exact vt x hx
    ·exact k6 q hq x hx
  rcases UC with⟨rfl,hk⟩|⟨rfl,hk⟩
  ·
   have fin:∀ (ws:List Wr),u4 P ops ⟨acc.length,aX ts e,aX os h,os,ws,kc⟩->(dU (db ws) fun mo=>dU (bR ws) fun mk=>dU (cC ws) fun bQ=>
       gH (mi dst made (acc.map Rec.oo) kc ws ⟨os,mo,mk,bQ⟩) (bw lw e h fun e h=>bw (sk ws) e h fun e h=>GQ P T made ops.toList l (acc.map Rec.oo ++ [⟨os,mo,mk,bQ⟩]) e h K)) ->
     ∃ (R:List Rec) (eN:Env) (hN:Heap),K eN hN/\qN R ⟨get e,get h⟩ ⟨get eN,get hN⟩/\R.length=l.length+1/\(∀ k q,(acc++R)[k]?=some q->q.idx=k/\zZ P ops gj q)/\(acc++R).Pairwise Pr /\ ∀ q∈R,∀ x∈bR q.ws,x∈made:=by
    intro ws RF hk;rw[nj,nj,nj]at hk;obtain⟨hc,hk⟩:=ca hk;unfold mi at hc;split at hc;case h_2=>cases hc
    rename_i c1 c2 c3 c4 c5;exact rest ws c4 c5 (Bd c3) c1 c2 RF hk
   by_cases ea:∃ c,op = .call c
   ·obtain⟨⟨callee,args,tys⟩,rfl⟩:=ea
    cases callee with
    | builtin bu=>
     obtain⟨ws,hk,fB⟩:=sN (P:=P) (ty:=ty) (pos:=pos) (after:=after) (guard:=guard) hT hk;exact fin ws (AX (q:=⟨acc.length,aX ts e,aX os h,os,ws,kc⟩) ho (fun he hg=>AK he hg) fB (fun c e=>by cases e)) hk
    | invoke f n=>
     have hk:(match aS (aX ts e) f,dR (aX ts e) args.toList with
        | some (.d (.ifc t v)),some l'=>J9 P t n fun g=>ef P (aX ts e) (aX os h) dst g (.d v::l') (fun ws=>dU (db ws) fun mo=>dU (bR ws) fun mk=>dU (cC ws) fun bQ=>
       gH (mi dst made (acc.map Rec.oo) kc ws ⟨os,mo,mk,bQ⟩) (bw lw e h fun e h=>bw (sk ws) e h fun e h=>GQ P T made ops.toList l (acc.map Rec.oo ++ [⟨os,mo,mk,bQ⟩]) e h K))
        | _,_=>False):=hk
     split at hk;case h_2=>exact hk.elim
     rename_i t v l' hf wJ;obtain⟨g,hm,ws,hk,fB⟩:=hk;exact fin ws (Jh (q:=⟨acc.length,aX ts e,aX os h,os,ws,kc⟩) ho (fun he hg=>AK he hg) wJ hf hm fB) hk
    | value f=>
     have hk:(match aS (aX ts e) f,dR (aX ts e) args.toList with
        | some (.d (.clo g bS)),some l'=>ef P (aX ts e) (aX os h) dst g (l'++inj bS) (fun ws=>dU (db ws) fun mo=>dU (bR ws) fun mk=>dU (cC ws) fun bQ=>
       gH (mi dst made (acc.map Rec.oo) kc ws ⟨os,mo,mk,bQ⟩) (bw lw e h fun e h=>bw (sk ws) e h fun e h=>GQ P T made ops.toList l (acc.map Rec.oo ++ [⟨os,mo,mk,bQ⟩]) e h K))
        | some (.clo g bS),some l'=>ef P (aX ts e) (aX os h) dst g (l'++bS) (fun ws=>dU (db ws) fun mo=>dU (bR ws) fun mk=>dU (cC ws) fun bQ=>
       gH (mi dst made (acc.map Rec.oo) kc ws ⟨os,mo,mk,bQ⟩) (bw lw e h fun e h=>bw (sk ws) e h fun e h=>GQ P T made ops.toList l (acc.map Rec.oo ++ [⟨os,mo,mk,bQ⟩]) e h K))
        | _,_=>False):=hk
     split at hk
     ·rename_i g bS l' hf wJ
      obtain⟨ws,hk,fB⟩:=hk;refine fin ws (yN (q:=⟨acc.length,aX ts e,aX os h,os,ws,kc⟩) ho (fun he hg=>AK he hg) wJ (fun {σ cx r m L F st a w} he hg=>?_) fB) hk;have dp:Good cx r m L F ⟨aX ts e,st.heap,st.s⟩ a w:=hg.sub he (fun _ _ h=>h);obtain⟨lc,dC,j7⟩:=dp.aS hf;exact⟨lc,dC,aq.inj.2 j7⟩
     ·rename_i g bS l' hf wJ
      obtain⟨ws,hk,fB⟩:=hk;refine fin ws (yN (q:=⟨acc.length,aX ts e,aX os h,os,ws,kc⟩) ho (fun he hg=>AK he hg) wJ (fun {σ cx r m L F st a w} he hg=>?_) fB) hk;have dp:Good cx r m L F ⟨aX ts e,st.heap,st.s⟩ a w:=hg.sub he (fun _ _ h=>h);obtain⟨lc,dC,j7⟩:=dp.aS hf;exact⟨lc,dC,j7⟩
     ·exact hk.elim
   ·have hk:gL T (aX ts e) (aX os h) dst op (fun ws=>dU (db ws) fun mo=>dU (bR ws) fun mk=>dU (cC ws) fun bQ=>
       gH (mi dst made (acc.map Rec.oo) kc ws ⟨os,mo,mk,bQ⟩) (bw lw e h fun e h=>bw (sk ws) e h fun e h=>GQ P T made ops.toList l (acc.map Rec.oo ++ [⟨os,mo,mk,bQ⟩]) e h K)):=by
     cases op<;>first|exact hk|exact absurd ⟨_,rfl⟩ ea
    have tZ:∀ c,op ≠ .defer c:=fun c hc=>by subst hc;exact hk
    obtain⟨ws,hk,fB⟩:=Ce (P:=P) (ty:=ty) (pos:=pos) (after:=after) (guard:=guard) hT hk;exact fin ws (AX (q:=⟨acc.length,aX ts e,aX os h,os,ws,kc⟩) ho (fun he hg=>AK he hg) fB tZ) hk
  ·obtain⟨hc,hk⟩:=ca hk
   have h0:db (bz dst (.d (.tup []))) = []/\bR (bz dst (.d (.tup []))) = []/\cC (bz dst (.d (.tup []))) = []/\fO (bz dst (.d (.tup [])))=true/\oN dst (bz dst (.d (.tup [])))=true/\sk (bz dst (.d (.tup [])))=bz dst (.d (.tup [])):=by
    cases dst with
    | none=>simp[bz,db,bR,cC,fO,oN,sk]
    | some d=>simp[bz,db,bR,cC,fO,oN,sk,cy,lB]
   obtain⟨z1,z2,z3,z4,z5,z6⟩:=h0;refine rest (bz dst (.d (.tup []))) z4 z5 (by rw[z2];intro x hx;cases hx) (by rw[z1,z2,z3];exact hc) (by
    rw[z2];have:∀ acc:List OO,r5 [] acc=true:=by
     intro acc
     induction acc with
     | nil=>rfl
     | cons p r ih=>simp[r5,lB,ih]
    exact this _) (Gc (q:=⟨acc.length,aX ts e,aX os h,os,bz dst (.d (.tup [])),kc⟩) ho rfl (fun he hg=>AK he hg)) ?_
   rw[z1,z2,z3,z6];exact hk
theorem Ix(hm:P.follows .mixedOrders=true)(hT:bA P T){ops:Array Oper}{rt:RT}(jA:l4 ops.toList rt=true):J4 P T ops rt:=by
 intro σ cx yk r m L F e h s a w K hg hd hk id;have LH:=jA;simp only[l4,Bool.and_eq_true]at LH;obtain⟨⟨⟨⟨hlen,lK⟩,pO⟩,ox⟩,vt⟩:=LH;have hlen:=Nat.eq_of_beq_eq_true hlen;obtain⟨e1,h1,L1,hk,eo,hu⟩:=BA rt.made (fun d NZ=>by
  have:=List.all_eq_true.1 vt d NZ;exact Nat.le_of_ble_eq_true this) hg hk (fun _=>False) (fun _ h=>h.elim)
 obtain⟨R,eN,hN,k1,k2,k3,k4,k5,k6⟩:=Nb hT ox (ops.toList.zip rt.gj) [] (fun j p hp=>by
  have:=List.getElem?_zip_eq_some.1 hp;simpa using this) (fun k q hq=>by simp at hq) List.Pairwise.nil hk
 simp only[List.nil_append]at k4 k5;have hRl:R.length=ops.size:=by rw[k3,List.length_zip,hlen];simp[<- hlen]
 refine wpIn_region_any hm ?_;have Pa:Tr F w F { w with drawn:=w.drawn+1 }:=Tr.drew _;refine JR (cx:=cx) yk (r:=r) (m:=m) (s:=s) (n0:=a.tmps.size) (F0:=F) (w0:=w) (f':=⟨get eN,get hN⟩) jA hd (fun a' w' L' F' st hf hs dp tr hn=>?_) ops.size (l:=R) (st:=⟨e1,h1,s⟩)
  ⟨k5,fun q hq=>?_,fun q hq=>?_,fun q hq=>?_⟩ (eo.same (w':={ w with drawn:=w.drawn+1 }) rfl rfl rfl rfl) rfl Pa rfl (fun q hq x hx=>hu x (.inl (k6 q hq x hx))) k2 (by omega) ⟨fun i=>?_,by simp,fun j o hj=>?_⟩
 ·refine⟨eN,hN,s,L',F',rfl,⟨k1,rfl⟩,?_,tr,hn⟩
  have he:get st.env=get eN:=congrArg Fs.env hf;have hh:get st.heap=get hN:=congrArg Fs.heap hf;have:=dp.sub (e:=eN) (h:=hN) (fun x v hx=>by rw[he];exact hx) (fun x v hx=>by rw[hh];exact hx);rw[hs]at this;exact this
 ·obtain⟨k,jj,zu⟩:=List.mem_iff_getElem.1 hq
  exact(k4 k q (by rw[List.getElem?_eq_getElem jj,zu])).2.snd
 ·obtain⟨k,jj,zu⟩:=List.mem_iff_getElem.1 hq
  exact(k4 k q (by rw[List.getElem?_eq_getElem jj,zu])).2.news
 ·obtain⟨k,jj,zu⟩:=List.mem_iff_getElem.1 hq
  obtain⟨o,t,h1,h2,h3,_⟩:=(k4 k q (by rw[List.getElem?_eq_getElem jj,zu])).2.op;exact⟨t,h2,h3⟩
 ·rw[Array.getD_eq_getD_getElem?,Array.getElem?_replicate]
  constructor
  ·rintro ⟨q,hq,rfl⟩
   obtain⟨k,jj,zu⟩:=List.mem_iff_getElem.1 hq;have:=(k4 k q (by rw[List.getElem?_eq_getElem jj,zu])).1;rw[if_pos (by omega)];rfl
  ·intro hi
   by_cases Nk:i<ops.size
   ·exact⟨R[i],List.getElem_mem ..,(k4 i R[i] (List.getElem?_eq_getElem (by omega))).1⟩
   ·rw[if_neg Nk]at hi;simp at hi
 ·rw[Array.getD_eq_getD_getElem?,Array.getElem?_replicate]at hj
  split at hj<;>cases hj
def iM(ft:FT):Code->Bool
 | .region id ops draw=>match draw with
  | false=>true
  | true=>match get ft.tb id with
   | none=>true
   | some rt=>l4 ops.toList rt
 | .seq a b=>iM ft a&&iM ft b
 | .cond _ a b=>iM ft a&&iM ft b
 | .block _ a=>iM ft a
 | .loop a=>iM ft a
 | .scope a=>iM ft a
 | .rangeFunc _ _ a b=>iM ft a&&iM ft b
 | _=>true
theorem an(hm:P.follows .mixedOrders=true)(hT:bA P T){ft:FT}:∀ {c:Code},iM ft c=true->dD P T ft c
 | .region id ops draw,h=>by
  intro hd rt P2;subst hd;simp only[iM,P2]at h;exact Ix hm hT h
 | .seq a b,h=>by
  simp only[iM,Bool.and_eq_true]at h;exact⟨an hm hT h.1,an hm hT h.2⟩
 | .cond _ a b,h=>by
  simp only[iM,Bool.and_eq_true]at h;exact⟨an hm hT h.1,an hm hT h.2⟩
 | .block _ a,h=>an (c:=a) hm hT h
 | .loop a,h=>an (c:=a) hm hT h
 | .scope a,h=>an (c:=a) hm hT h
 | .rangeFunc _ _ a b,h=>by
  simp only[iM,Bool.and_eq_true]at h;exact⟨an hm hT h.1,an hm hT h.2⟩
 | .skip,_=>trivial
 | .exit _,_=>trivial
 | .label _,_=>trivial
 | .goto _,_=>trivial
 | .ret,_=>trivial
 | .refuse _,_=>trivial
end
def qi(tmps:Array Value)(r:ResultVar):Sem Value:=
 match r with
 | .tmp t=>pure (tmps.getD t undef)
 | .cell b t=>do loadVar t (<- asAddr (tmps.getD b undef))
theorem Gs(fn:Func)(tmps:Array Value):results fn tmps=(do
  let vs <- fn.results.mapM (qi tmps)
  pure (if h:vs.size=1 then vs[0] else .tuple vs)):=rfl
section
variable {P : Program} {T : e7}
theorem uQ(hT:bA P T){e:Env}{h:Heap}:∀ {rs:List ResultVar} {K:List V->Prop},Ew T e h rs K ->
  ∃ l,K l /\ ∀ {σ:Type} {cx:Cx σ} {r:Option Nat} {m:List Nat} {L:Loc} {F:Nat->Nat} {s:σ} {a:Act} {w:World},Good cx r m L F ⟨e,h,s⟩ a w ->
   ∃ aT:List Value,(rs.mapM (qi a.tmps)).run P w = .ok aT w/\aq cx.yv L F w l aT
 | [],K,hk=>⟨[],hk,fun _=>⟨[],by simp,rfl⟩⟩
 | .tmp t::rs,K,hk=>by
  have hk:(match get e t with
   | some v=>Ew T e h rs fun l=>K (v::l)
   | none=>False):=hk
  split at hk
  ·rename_i v hv
   obtain⟨l,hl,bN⟩:=uQ hT hk;refine⟨v::l,hl,fun {σ cx r m L F s a w} hg=>?_⟩;obtain⟨aT,hr,rU⟩:=bN hg;obtain⟨x,hx,sw⟩:=hg.env t v hv;refine⟨x::aT,?_,x,aT,rfl,sw,rU⟩;simp only[List.mapM_cons,Sem.run_bind,qi,Sem.run_pure,Result.andThen_ok,hr];simp[hx]
  ·exact hk.elim
 | .cell b t::rs,K,hk=>by
  have hk:D0 T e h t (.tmp b) fun v=>Ew T e h rs fun l=>K (v::l):=hk;obtain⟨v,hk,UW⟩:=HQ (P:=P) hT hk;obtain⟨l,hl,bN⟩:=uQ hT hk;refine⟨v::l,hl,fun {σ cx r m L F s a w} hg=>?_⟩;obtain⟨aT,hr,rU⟩:=bN hg;obtain⟨bb,off,y,hu,hy,DN⟩:=UW cx L F s (a.eval (.tmp b)) w h (fun _ _ h=>h) hg.heap (fun v hv=>hg.aS hv);have SO:a.tmps.getD b undef = .pointer (some ⟨bb,off,none⟩):=hu;have U2:(qi a.tmps (.cell b t)).run P w = .ok y w:=by simp[qi,SO,asAddr,hy]
  refine⟨y::aT,?_,y,aT,rfl,DN,rU⟩;simp only[List.mapM_cons,Sem.run_bind,U2,Result.andThen_ok,hr,Sem.run_pure]
theorem kl{fn:Func}{tmps:Array Value}{w:World}{aT:List Value}(h:(fn.results.toList.mapM (qi tmps)).run P w = .ok aT w):(results fn tmps).run P w = .ok (H0 aT) w:=by
 have Rj:(fn.results.mapM (qi tmps)).run P w = .ok aT.toArray w:=by
  rw[Array.mapM_eq_mapM_toList];simp only[Sem.run_map,h,Result.andThen_ok]
 rw[Gs];simp only[Sem.run_bind,Rj,Result.andThen_ok,Sem.run_pure]
 congr 1
 match aT with
 | []=>rfl
 | [x]=>rfl
 | x::y::r=>simp[H0]
theorem aZ.GG{σ:Type}{cx:Cx σ}{L:Loc}{F:Nat->Nat}{h:Heap}{s:σ}{w:World}(hh:aZ cx L F h s w){b:Nat}(hb:w.heap[b]?=some (.deferred (some [])))(hC:¬ cx.C s b) :
  aZ cx L F h s (w.putObj b (.deferred none))/\Tr F w F (w.putObj b (.deferred none)):=by
 have hk:∀ x,x≠b->(w.putObj b (.deferred none)).heap[x]?=w.heap[x]?:=fun x hx=>by
  simp[World.putObj,Array.getElem?_setIfInBounds_ne (Ne.symm hx)]
 have Y8:(w.putObj b (.deferred none)).heap[b]?=some (.deferred none):=by
  simp[World.putObj,Array.getElem?_setIfInBounds,(Array.getElem?_eq_some_iff.1 hb).1]
 have dc:(w.putObj b (.deferred none)).heap.size=w.heap.size:=by simp[World.putObj]
 have tr:Tr F w F (w.putObj b (.deferred none)):=by
  refine⟨rfl,rfl,rfl,by rw[dc];exact Nat.le_refl _,fun _=>Nat.le_refl _,fun x o hx=>?_,fun x en c hx hm=>?_⟩
  ·by_cases he:x=b
   ·subst he;simp[World.cell?,hb,Y8]
   ·exact jH (hk x he)
  ·by_cases he:x=b
   ·subst he;rw[hb]at hm;cases hm
   ·rw[hk x he];exact hm
 have eW:∀ id o,get h id=some o->aV L id o->L.ρ id≠b:=by
  intro id o ho jn e;have:=hh.obj id o ho
  cases o with
  | box c=>obtain⟨c',T,hc,_⟩:=this;rw[e,hb]at hc;cases hc
  | arr sz es=>
   obtain⟨_,_,h⟩:=this;rcases h with⟨_,hk⟩|⟨c,T,hc,_⟩
   ·exact jn hk
   ·rw[e,hb]at hc;cases hc
  | map cJ=>obtain⟨en,c,hc,_⟩:=this;rw[e,hb]at hc;cases hc
  | iter s n=>have hc:w.heap[L.ρ id]?=_:=this;rw[e,hb]at hc;cases hc
  | buf t s=>obtain⟨_,hc,_⟩:=this;rw[e,hb]at hc;cases hc
  | tb t l=>obtain⟨_,hc,_⟩:=this;rw[e,hb]at hc;cases hc
  | mit v n l u=>obtain⟨_,_,_,hc,_⟩:=this;rw[e,hb]at hc;cases hc
 refine⟨⟨cx.fS hh.hg tr (fun x hx=>hh.fresh x (by rw[<- dc];exact hx)) fun x hx=>⟨hk x (by rintro rfl;exact hC hx),rfl⟩,fun x hx=>by rw[dc];exact hh.iw x hx,fun x hx=>hh.fresh x (by rw[<- dc];exact hx),fun id o ho=>?_,hh.own,hh.inj⟩,tr⟩;exact cb.mono tr id o (fun _ _=>⟨rfl,rfl⟩) ⟨rfl,rfl⟩ (fun jn=>hk _ (eW id o ho jn)) (hh.obj id o ho)
theorem kT{σ:Type}{cx:Cx σ}{L:Loc}{F0:Nat->Nat}{w0:World}{h:Heap}{s:σ}{fn:Func}{tmps:Array Value}{R:Ending->World->Prop}:∀ (m:List Nat) {F:Nat->Nat} {w:World},aZ cx L F h s w->Tr F0 w0 F w ->
  (∀ b∈m,w.heap[b]?=some (.deferred (some []))/\¬ cx.C s b)->m.Nodup->(∀ w',aZ cx L F h s w'->Tr F w F w' -> ∃ v,(results fn tmps).run P w' = .ok v w'/\R (.returned v) w') ->
  LeavesInM Fence.wide 0 P fn tmps R (m.map mark) .returning w
 | [],F,w,hh,tr,hm,hn,hR=>by
  simp only[List.map_nil,LeavesInM,LeavesIn];exact hR w hh (Tr.refl F w)
 | b::m,F,w,hh,tr,hm,hn,hR=>by
  obtain⟨hb,hC⟩:=hm b (List.mem_cons_self ..);obtain⟨mc,mV⟩:=hh.GG hb hC;simp only[List.map_cons,LeavesInM];refine⟨by simp,.inl ⟨b,w.putObj b (.deferred none),rfl,?_,?_⟩⟩
  ·simp[Instr.takeDeferred,Sem.run_bind,getObj,setObj,Sem.run,hb,Result.andThen,World.putObj]
  ·have tZ:=List.nodup_cons.1 hn
   refine kT m mc (Tr.trans tr mV) (fun x hx=>?_) tZ.2 fun w' h1 h2=>hR w' h1 (Tr.trans mV h2);have I0:x≠b:=by rintro rfl;exact tZ.1 hx
   refine⟨?_,(hm x (List.mem_cons_of_mem _ hx)).2⟩;rw[<- (hm x (List.mem_cons_of_mem _ hx)).1];simp[World.putObj,Array.getElem?_setIfInBounds_ne (Ne.symm I0)]
def nS(ft:FT)(fn:Func)(n:Nat):Bool:=
 match fn.body with
 | some c => codeOk fn.ntmps c && iM ft c && Nat.ble fn.ntmps 1000000 && fn.name != "runtime.NumGoroutine" && Nat.ble n fn.ntmps
 | none=>false
theorem lg:∀ {args:List V} {i s:Nat} {v:V},get (dy i args) s=some v -> ∃ k,s=i+k/\args[k]?=some v
 | [],i,s,v,h=>by cases h
 | a::r,i,s,v,h=>by
  simp only[dy,get]at h;split at h
  ·rename_i he
   have:=Nat.eq_of_beq_eq_true he;subst this;cases h;exact⟨0,rfl,rfl⟩
  ·obtain⟨k,rfl,hk⟩:=lg h
   exact⟨k+1,by omega,by simpa using hk⟩
theorem dQ(hm:P.follows .mixedOrders=true)(hT:bA P T){σ:Type}{Y:Hd σ}{f:FuncId}{fn:Func}{c:Code}(hf:P.funcs[f]?=some fn)(hb:fn.body=some c){ft:FT}{args:List V}(gh:nS ft fn args.length=true)
  {h:Heap} {s:σ} {Q:V->Heap->σ->Prop} (hw:Cy P T ft Y.np c ⟨dy 0 args,h,s⟩ (Sz T fn.results.toList Q)):Nx P Y f args h s Q:=by
 unfold nS at gh;rw[hb]at gh;simp only[Bool.and_eq_true,bne_iff_ne,ne_eq]at gh;obtain⟨⟨⟨⟨AE,yf⟩,Lx⟩,pR⟩,hlen⟩:=gh;have Lx:=Nat.le_of_ble_eq_true Lx;have hlen:=Nat.le_of_ble_eq_true hlen;refine⟨fun vs w=>by simp[callFunc,hf,pR,hb,Go.mark],fun cx hY L F aT w hh hr=>?_⟩;have FM:aT.size=args.length:=by simpa using hr.length
 have dc:(aT++Array.replicate (fn.ntmps-aT.size) undef).size=fn.ntmps:=by simp;omega
 refine callsIn_of_wp_marks hf hb trivial ?_;have hg:Good { cx with pρ:=L.ρ,pκ:=L.κ,base:=[] } none [] L F ⟨dy 0 args,h,s⟩ { tmps:=aT++Array.replicate (fn.ntmps-aT.size) undef,defers:=[] } w:=by
  refine⟨⟨hh.hg,hh.iw,hh.fresh,hh.obj,hh.own,hh.inj⟩,fun t v ht=>?_,rfl,(fun b hb=>by cases hb),List.nodup_nil,(fun l hl=>by cases hl),fun _ _=>⟨rfl,rfl⟩,by rw[dc];exact Lx⟩;obtain⟨k,hk,hv⟩:=lg ht;rw[Nat.zero_add]at hk;subst hk;obtain⟨x,hx,sw⟩:=hr.get t hv;refine⟨x,?_,sw⟩;have dN:t<aT.size:=by
   have:=(List.getElem?_eq_some_iff.1 hx).1;simpa using this
  rw[Array.getElem?_append_left dN];simpa using hx
 have YY:ct P Y.np { cx with pρ:=L.ρ,pκ:=L.κ,base:=[] }:=by
  refine⟨?_,hY.laid⟩;intro l hl args h s Q hy L' F' aT w mc hr;obtain⟨fn,tmps,zq,body,h1,h2⟩:=hY.yld l hl args h s Q hy L' F' aT w ⟨mc.hg,mc.iw,mc.fresh,mc.obj,mc.own,mc.inj⟩ hr;refine⟨fn,tmps,zq,body,h1,h2.mono ?_⟩;rintro e w' ⟨x,he,v,h',s',Ka,GV,hq,eG,rest⟩;exact⟨x,he,v,h',s',Ka,GV,hq,⟨eG.hg,eG.iw,eG.fresh,eG.obj,eG.own,eG.inj⟩,rest⟩
 have RQ:=dX hT c (an hm hT yf) ⟨dy 0 args,h,s⟩ _ hw _ YY none [] L F _ w hg (by rw[dc];exact AE);have RQ:c.wpIn Fence.wide 0 P _ { tmps:=aT++Array.replicate (fn.ntmps-aT.size) undef,defers:=[] } w:=RQ;refine wpIn_mono RQ fun ex a' w' hq=>?_;rcases hq with⟨e',st',m',L',F',rfl,hk,dp,tr,hs⟩|⟨v,e',h',s',m',L',F',_,hy,_⟩
 case inr=>exact hy.elim
 have fin:Sz T fn.results.toList Q .normal st'->LeavesInM Fence.wide 0 P fn a'.tmps (fun e w'=>∃ x,e = .returned x /\ ∃ v h' s' L' F',Q v h' s'/\aZ cx L' F' h' s' w'/\bg cx.yv L' F' w' v x/\Tr F w F' w'/\mh L L') a'.defers .returning w':=by
  intro hk;rw[dp.sR,List.append_nil];refine kT m' dp.heap tr dp.pg dp.vD fun wv eG wu=>?_;obtain⟨e1,h1,s1⟩:=st';have hk:Ew T e1 h1 fn.results.toList fun l=>rD l h1 s1 Q:=hk;obtain⟨l,⟨FI⟩,bN⟩:=uQ (P:=P) hT hk;have Fz:Good { cx with pρ:=L.ρ,pκ:=L.κ,base:=[] } none [] L' F' ⟨e1,h1,s1⟩ { a' with defers:=[] } wv:=by
   refine⟨eG,fun t v ht=>?_,rfl,(fun b hb=>by cases hb),List.nodup_nil,(fun l hl=>by cases hl),dp.jy,dp.ud⟩;obtain⟨x,hx,sw⟩:=dp.env t v ht;exact⟨x,hx,bg.mono wu v x (fun _ _=>⟨rfl,rfl⟩) sw⟩
  obtain⟨zk,tg,rU⟩:=bN Fz;obtain⟨v,h',L2,F2,hq,N4,wK,Bf,Jz⟩:=FI cx L' F' zk wv ⟨eG.hg,eG.iw,eG.fresh,eG.obj,eG.own,eG.inj⟩ rU;refine⟨_,kl tg,_,rfl,v,h',s1,L2,F2,hq,N4,wK,Tr.trans tr (Tr.trans wu Bf),fun i hi=>?_⟩;obtain⟨p1,p2⟩:=Jz i hi;obtain⟨p3,p4⟩:=dp.jy i hi;exact⟨p1.trans p3,p2.trans p4⟩
 cases e' with
 | normal=>exact fin hk
 | ret=>exact fin hk
 | exit i=>exact hk.elim
end
def qh(R:Nat->Nat)(v:V):V:=
 match v with
 | .ptr i off=>.ptr (R i) off
 | .ep i sz k off=>.ep (R i) sz k off
 | .sl i sz off n=>.sl (R i) sz off n
 | .mp i=>.mp (R i)
 | .it i=>.it (R i)
 | v=>v
abbrev o6(R:Nat->Nat)(v:V):V:=aL (qh R) v
abbrev tN(R:Nat->Nat)(v:List V):List V:=dE (qh R) v
abbrev kf(R:Nat->Nat)(o:Obj):Obj:=Obj.aL (qh R) o
section
variable {yv : Option Nat} {L L' : Loc} {F : Nat -> Nat} {w : World} {R : Nat -> Nat}
mutual
theorem bg.o6:∀ (v:V) (x:Value),(∀ i,iC v i->L'.ρ (R i)=L.ρ i/\L'.κ (R i)=L.κ i)->(bg yv L' F w (aL (qh R) v) x↔bg yv L F w v x)
 | .d v,_,_=>Iff.rfl
 | .agg cs,x,hn=>by
  constructor
  ·rintro ⟨l,rfl,hl⟩;exact⟨l,rfl,(aq.o6 cs _ hn).1 hl⟩
  ·rintro ⟨l,rfl,hl⟩;exact⟨l,rfl,(aq.o6 cs _ hn).2 hl⟩
 | .tup cs,x,hn=>by
  constructor
  ·rintro ⟨l,rfl,hl⟩;exact⟨l,rfl,(aq.o6 cs _ hn).1 hl⟩
  ·rintro ⟨l,rfl,hl⟩;exact⟨l,rfl,(aq.o6 cs _ hn).2 hl⟩
 | .ptr id off,x,hn=>by
  show x = .pointer (some ⟨L'.ρ (R id),off,none⟩)↔x = .pointer (some ⟨L.ρ id,off,none⟩);rw[(hn id rfl).1]
 | .ep id sz k off,x,hn=>by
  show x = .pointer (some ⟨L'.ρ (R id),k*sz+off,none⟩)↔x = .pointer (some ⟨L.ρ id,k*sz+off,none⟩);rw[(hn id rfl).1]
 | .sl id sz off len,x,hn=>by
  show(∃ a cap,x = .slice a len cap/\len<=cap/\0<sz/\((len=0/\cap=0)\/(a=some ⟨L'.ρ (R id),off*sz,none⟩/\(off+cap)*sz<=L'.κ (R id)))) ↔
   (∃ a cap,x = .slice a len cap/\len<=cap/\0<sz/\((len=0/\cap=0)\/(a=some ⟨L.ρ id,off*sz,none⟩/\(off+cap)*sz<=L.κ id)))
  rw[(hn id rfl).1,(hn id rfl).2]
 | .mp id,x,hn=>by
  show x = .map (some (L'.ρ (R id)))↔x = .map (some (L.ρ id));rw[(hn id rfl).1]
 | .it id,x,hn=>by
  show x = .pointer (some ⟨L'.ρ (R id),0,none⟩)↔x = .pointer (some ⟨L.ρ id,0,none⟩);rw[(hn id rfl).1]
 | .clo f cs,x,hn=>by
  constructor
  ·rintro ⟨l,rfl,hl⟩;exact⟨l,rfl,(aq.o6 cs _ hn).1 hl⟩
  ·rintro ⟨l,rfl,hl⟩;exact⟨l,rfl,(aq.o6 cs _ hn).2 hl⟩
 | .yld,_,_=>Iff.rfl
 | .unk,_,_=>Iff.rfl
theorem aq.o6:∀ (vs:List V) (l:List Value),(∀ i,bZ vs i->L'.ρ (R i)=L.ρ i/\L'.κ (R i)=L.κ i)->(aq yv L' F w (dE (qh R) vs) l↔aq yv L F w vs l)
 | [],_,_=>Iff.rfl
 | v::r,l,hn=>by
  simp only[dE,aq];constructor
  ·rintro ⟨x,l',rfl,hv,hl⟩;exact⟨x,l',rfl,(bg.o6 v x fun i hi=>hn i (.inl hi)).1 hv,(aq.o6 r l' fun i hi=>hn i (.inr hi)).1 hl⟩
  ·rintro ⟨x,l',rfl,hv,hl⟩;exact⟨x,l',rfl,(bg.o6 v x fun i hi=>hn i (.inl hi)).2 hv,(aq.o6 r l' fun i hi=>hn i (.inr hi)).2 hl⟩
end
theorem wi{f:V->V}{sz:Nat}{l:List (List V)}:dj sz (aU f l)↔dj sz l:=by
 induction l with
 | nil=>exact Iff.rfl
 | cons e r ih=>
  simp only[aU,dj,List.forall_mem_cons,jU];exact and_congr Iff.rfl ih
theorem D6{f:V->V}{l:List (List V)}:aU f l = []↔l = []:=by cases l<;>simp[aU]
theorem cb.o6(id:Nat)(o:Obj)(hn:∀ i,lW o i->L'.ρ (R i)=L.ρ i/\L'.κ (R i)=L.κ i){oA:Nat}(hid:L'.ρ oA=L.ρ id/\L'.κ oA=L.κ id) :
  cb yv L' F w oA (kf R o)↔cb yv L F w id o:=by
 cases o with
 | box c=>
  cases c with
  | dd l=>
   simp only[cb,Obj.aL,hid.1,Cells.bm,aq.inj]
  | vv l=>
   simp only[cb,Obj.aL,hid.1,Cells.bm];refine exists_congr fun c=>exists_congr fun T=>and_congr Iff.rfl (aq.o6 l _ hn)
 | arr sz es=>
  cases es with
  | dd l=>
   simp only[cb,Obj.aL,hid.1,hid.2,aK.bm,dt,aq.inj]
  | vv l=>
   simp only[cb,Obj.aL,hid.1,hid.2,aK.bm];rw[wi,D6,gT,gw];refine and_congr Iff.rfl (and_congr Iff.rfl (or_congr Iff.rfl ?_));refine exists_congr fun c=>exists_congr fun T=>and_congr Iff.rfl (and_congr Iff.rfl (and_congr Iff.rfl (aq.o6 l.flatten _ hn)))
 | map cJ=>simp only[cb,Obj.aL,hid.1]
 | iter s n=>simp only[cb,Obj.aL,hid.1]
 | buf t s=>simp only[cb,Obj.aL,hid.1,hid.2]
 | tb t l=>
  simp only[cb,Obj.aL,hid.1];refine exists_congr fun c=>and_congr Iff.rfl (aq.o6 l _ hn)
 | mit v n l u=>
  simp only[cb,Obj.aL,hid.1];refine exists_congr fun r=>exists_congr fun seen=>and_congr (bg.o6 v _ hn) Iff.rfl
theorem cG(id:Nat)(o:Obj){oA:Nat}(hk:L'.κ oA=L.κ id):aV L' oA (kf R o)↔aV L id o:=nU hk o
end
def eU(tb:List Nat)(d:Nat)(i:Nat):Nat:=
 match Nat.blt i 1000000 with
 | true=>i
 | false=>match Nat.blt i 2000000 with
  | true=>match tb[i-1000000]? with
   | some k=>k
   | none=>0
  | false=>100000+64*d+(i-2000000)
def dG:Heap->List Nat
 | []=>[]
 | (i,_)::r=>match Nat.blt i 2000000 with
  | true=>dG r
  | false=>i::dG r
def lU(R:Nat->Nat)(h':Heap):Nat->List Nat->List Wr
 | _,[]=>[]
 | i,k::r=>(match get h' i with
  | some o=>.obj k (kf R o)
  | none=>.del k)::lU R h' (i+1) r
def qd(R:Nat->Nat)(h':Heap):List Nat->List Wr
 | []=>[]
 | i::r=>(match get h' i with
  | some o=>.new (R i) (kf R o)
  | none=>.new (R i) (.box (.dd [])))::qd R h' r
def cL(tb:List Nat)(d:Option Nat)(v:V)(h':Heap):List Wr:=
 let R:=eU tb (d.getD 0)
 qd R h' (dG h')++(lU R h' 1000000 tb++bz d (o6 R v))
def nodupB:List Nat->Bool
 | []=>true
 | k::r=>!FP r k&&nodupB r
def z8(n:Nat)(nk:List Nat):List Nat->Bool
 | []=>true
 | i::r=>(Nat.ble 1000000 i&&Nat.blt i (1000000+n)||FP nk i)&&z8 n nk r
def cX:Heap->List Nat
 | []=>[]
 | (i,o)::r=>i::(gV o++cX r)
def jr(R:Nat->Nat)(h:Heap):Nat->List Nat->Heap->Prop
 | _,[],h0=>h0 = []
 | i,k::r,h0=>∃ o h1,h0=(i,o)::h1/\get h k=some (kf R o)/\jr R h (i+1) r h1
def gG(tb:List Nat)(d:Option Nat)(v:V)(h':Heap):Bool:=
 nodupB tb&&Nat.ble (dG h').length 64&&nodupB (dG h')&&lB tb ((dG h').map (eU tb (d.getD 0)))&&z8 tb.length (dG h') (cX h')&&z8 tb.length (dG h') (cy v) &&
  (dG h').all (fun i=>Nat.blt i 2000064)&&Nat.ble (d.getD 0) 10000&&Nat.ble tb.length 1000&&fO (cL tb d v h')
def o9(P:Program)(f:FuncId)(args:List V)(h:Heap)(Q:V->Heap->Prop):Prop:=
 ∀ {σ:Type} (Y:Hd σ) (s:σ),Nx P Y f args h s fun v h' s'=>Q v h'/\s'=s
theorem gX:∀ {l:List Nat},nodupB l=true->l.Nodup
 | [],_=>List.nodup_nil
 | k::r,h=>by
  simp only[nodupB,Bool.and_eq_true,Bool.not_eq_true']at h;refine List.nodup_cons.2 ⟨fun hm=>?_,gX h.2⟩;rw[il.2 hm]at h;cases h.1
theorem rG{n:Nat}{nk:List Nat}:∀ {l:List Nat},z8 n nk l=true -> ∀ i∈l,(1000000<=i/\i<1000000+n)\/i∈nk
 | [],_,i,hi=>by cases hi
 | k::r,h,i,hi=>by
  simp only[z8,Bool.and_eq_true,Bool.or_eq_true]at h;rcases List.mem_cons.1 hi with rfl|hi
  ·exact h.1.imp (fun h=>⟨Nat.le_of_ble_eq_true h.1,Nat.le_of_ble_eq_true h.2⟩) il.1
  ·exact rG h.2 i hi
theorem bj:∀ {h:Heap} {i:Nat} {o:Obj},get h i=some o->i∈cX h /\ ∀ x∈gV o,x∈cX h
 | [],i,o,h=>by cases h
 | (k,p)::r,i,o,h=>by
  simp only[get]at h;split at h
  ·rename_i he
   have:=Nat.eq_of_beq_eq_true he;subst this;cases h;exact⟨by simp[cX],fun x hx=>by simp[cX,hx]⟩
  ·obtain⟨h1,h2⟩:=bj h
   exact⟨by simp[cX,h1],fun x hx=>by simp[cX,h2 x hx]⟩
theorem oF:∀ {h:Heap} {i:Nat},i∈dG h->2000000<=i
 | [],i,h=>by cases h
 | (k,p)::r,i,h=>by
  simp only[dG]at h;split at h
  ·exact oF h
  ·rename_i hk
   rcases List.mem_cons.1 h with rfl|h
   ·rcases Nat.lt_or_ge i 2000000 with dN|AF
    ·rw[show Nat.blt i 2000000=true from Nat.ble_eq_true_of_le dN]at hk;cases hk
    ·exact AF
   ·exact oF h
theorem od{tb:List Nat}{d k id:Nat}(hk:tb[k]?=some id)(hl:tb.length<=1000):eU tb d (1000000+k)=id:=by
 have dN:k<tb.length:=(List.getElem?_eq_some_iff.1 hk).1;unfold eU;have h1:Nat.blt (1000000+k) 1000000=false:=by
  rw[Bool.eq_false_iff];intro h;have:=Nat.le_of_ble_eq_true h;omega
 have h2:Nat.blt (1000000+k) 2000000=true:=Nat.ble_eq_true_of_le (by omega);rw[h1,h2];simp only[show 1000000+k-1000000=k by omega,hk]
theorem Iq{tb:List Nat}{d i:Nat}(hi:2000000<=i):eU tb d i=100000+64*d+(i-2000000):=by
 unfold eU;have h1:Nat.blt i 1000000=false:=by
  rw[Bool.eq_false_iff];intro h;have:=Nat.le_of_ble_eq_true h;omega
 have h2:Nat.blt i 2000000=false:=by
  rw[Bool.eq_false_iff];intro h;have:=Nat.le_of_ble_eq_true h;omega
 rw[h1,h2]
theorem vA{R:Nat->Nat}{h:Heap}:∀ {tb:List Nat} {b:Nat} {h0:Heap},jr R h b tb h0 -> ∀ i o,get h0 i=some o -> ∃ k id,i=b+k/\tb[k]?=some id/\get h id=some (kf R o)
 | [],b,h0,hl,i,o,hi=>by
  have:h0 = []:=hl;subst this;cases hi
 | id::r,b,h0,hl,i,o,hi=>by
  obtain⟨o',h1,rfl,hg,hl⟩:=hl;simp only[get]at hi;split at hi
  ·rename_i he
   have:=Nat.eq_of_beq_eq_true he;subst this;cases hi;exact⟨0,id,rfl,by simp,hg⟩
  ·obtain⟨k,oA,rfl,hk,dp⟩:=vA hl i o hi
   exact⟨k+1,oA,by omega,by simpa using hk,dp⟩
def rI{σ:Type}(st:St σ):List Nat->St σ
 | []=>st
 | i::r=>rI ⟨cZ (aL (bf i)) st.env,cZ (Obj.aL (bf i)) (cut st.heap i),st.s⟩ r
def AN:List Nat->V->V
 | [],v=>v
 | i::r,v=>AN r (aL (bf i) v)
def pY:List Nat->Obj->Obj
 | [],v=>v
 | i::r,v=>pY r (Obj.aL (bf i) v)
theorem Po{σ:Type}:∀ (l:List Nat) (st:St σ),(rI st l).s=st.s
 | [],_=>rfl
 | _::r,st=>by rw[rI,Po r]
theorem sP{σ:Type}:∀ (l:List Nat) (st:St σ) (x:Nat),get (rI st l).env x=(get st.env x).map (AN l)
 | [],st,x=>by cases h:get st.env x<;>simp[rI,AN,h]
 | i::r,st,x=>by
  rw[rI,sP r,bY];cases h:get st.env x<;>simp[AN]
theorem nh{σ:Type}:∀ (l:List Nat) (st:St σ) (x:Nat),get (rI st l).heap x=if x∈l then none else (get st.heap x).map (pY l)
 | [],st,x=>by cases h:get st.heap x<;>simp[rI,pY,h]
 | i::r,st,x=>by
  rw[rI,nh r,bY,e6];by_cases h1:x∈r
  ·simp[h1]
  ·by_cases h2:x=i
   ·simp[h2]
   ·cases h:get st.heap x<;>simp[h1,h2,pY]
theorem DV:∀ (l:List Nat) (v:V),(∀ i∈l,¬ iC v i)->AN l v=v
 | [],_,_=>rfl
 | i::r,v,h=>by
  rw[AN,wM i v (h i (List.mem_cons_self ..))];exact DV r v fun j hj=>h j (List.mem_cons_of_mem _ hj)
theorem uI:∀ (l:List Nat) (v:Obj),(∀ i∈l,¬ lW v i)->pY l v=v
 | [],_,_=>rfl
 | i::r,v,h=>by
  rw[pY,DU i v (h i (List.mem_cons_self ..))];exact uI r v fun j hj=>h j (List.mem_cons_of_mem _ hj)
section
variable {σ : Type} {cx : Cx σ} {r : Option Nat} {m : List Nat} {L : Loc} {F : Nat -> Nat} {a : Act} {w : World}
theorem Good.rI:∀ (l:List Nat) {st:St σ},Good cx r m L F st a w->Good cx r m L F (rI st l) a w
 | [],st,h=>h
 | i::l,st,h=>by
  have h1:Good cx r m L F ⟨st.env,cut st.heap i,st.s⟩ a w:=h.del i;exact Good.rI l (h1.kill i)
end
theorem yy{e:Env}{h:Heap}(k:Nat){x:Nat}(hx:x=k\/rF ⟨get e,get h⟩ x):rF ⟨get (cZ (aL (bf k)) e),get (cZ (Obj.aL (bf k)) (cut h k))⟩ x:=by
 refine⟨?_,fun t v ht ym=>?_,fun t o ht ym=>?_⟩
 ·show get _ x=none
  rw[bY,e6];split
  ·rfl
  ·rename_i Vm
   have:get h x=none:=(hx.resolve_left Vm).none;rw[this];rfl
 ·simp only[bY]at ht
  cases h1:get e t with
  | none=>simp[h1]at ht
  | some v0=>
   simp[h1]at ht;subst ht;obtain⟨y,h2,rfl,h3⟩:=nG (wN k) v0 x ym;exact(hx.resolve_left h3).env t v0 h1 h2
 ·simp only[bY,e6]at ht
  split at ht
  ·cases ht
  ·cases h1:get h t with
   | none=>simp[h1]at ht
   | some v0=>
    simp[h1]at ht;subst ht;obtain⟨y,h2,rfl,h3⟩:=r4 (wN k) v0 x ym;exact(hx.resolve_left h3).heap t v0 h1 h2
theorem G8{σ:Type}:∀ (l:List Nat) (st:St σ) (B:Nat->Prop),(∀ x,B x->rF (dr st) x) -> ∀ x,x∈l\/B x->rF (dr (rI st l)) x
 | [],st,B,hB,x,hx=>hB x (hx.resolve_left (by simp))
 | i::l,st,B,hB,x,hx=>by
  rw[rI];refine G8 l ⟨cZ (aL (bf i)) st.env,cZ (Obj.aL (bf i)) (cut st.heap i),st.s⟩ (fun y=>y=i\/B y) (fun y hy=>yy i (hy.imp id (hB y))) x ?_;rcases hx with hx|hx
  ·rcases List.mem_cons.1 hx with rfl|hx
   ·exact .inr (.inl rfl)
   ·exact .inl hx
  ·exact .inr (.inr hx)
theorem Dm{σ:Type}:∀ (ws:List Wr) (st:St σ),fO ws=true->dr (aR st ws)=cA (dr (rI st (bR ws))) ws
 | [],st,_=>rfl
 | w::r,st,gh=>by
  obtain⟨h1,h2,h3,h4⟩:=vH gh;rw[aR,Dm r _ h1,cA]
  congr 1
  have put:∀ (i:Nat) (o:Obj),(∀ x∈bR r,x∉gV o)->(∀ x∈bR r,x≠i) -> ∀ (e:Env) (h:Heap) (s:σ),
    dr (rI (⟨e,put h i o,s⟩:St σ) (bR r))=⟨(dr (rI (⟨e,h,s⟩:St σ) (bR r))).env,fun x=>if x=i then some o else (dr (rI (⟨e,h,s⟩:St σ) (bR r))).heap x⟩:=by
   intro i o ho hi e h s
   ext1
   ·funext x;simp only[dr,sP]
   ·funext x
    simp only[dr,nh,eM];by_cases hx:x=i
    ·subst hx
     rw[if_neg (fun hm=>hi x hm rfl),if_pos rfl,if_pos rfl];simp only[Option.map_some];rw[uI _ _ fun j hj hn=>ho j hj (fu j o hn)]
    ·simp only[hx,if_false]
  have one:∀ (i:Nat) (o:Obj),(∀ x∈bR r,x∉gV o)->(∀ x∈bR r,x≠i) -> ∀ (e:Env) (h:Heap) (s:σ),
    dr (rI (⟨e,(i,o)::h,s⟩:St σ) (bR r))=⟨(dr (rI (⟨e,h,s⟩:St σ) (bR r))).env,fun x=>if x=i then some o else (dr (rI (⟨e,h,s⟩:St σ) (bR r))).heap x⟩:=by
   intro i o ho hi e h s
   ext1
   ·funext x;simp only[dr,sP]
   ·funext x
    simp only[dr,nh,gd];by_cases hx:x=i
    ·subst hx
     rw[if_neg (fun hm=>hi x hm rfl),if_pos rfl,if_pos rfl];simp only[Option.map_some];rw[uI _ _ fun j hj hn=>ho j hj (fu j o hn)]
    ·simp only[hx,if_false]
  cases w with
  | set s v=>
   simp only[bP,bR,gJ]
   ext1
   ·funext x
    simp only[dr,sP,eM];split
    ·simp only[Option.map_some]
     rw[DV _ _ fun j hj hn=>h2 j hj (by simp[cC,jd j v hn])]
    ·rfl
   ·funext x;simp only[dr,nh]
  | obj i o=>
   simp only[bP,bR,gJ];exact put i o (fun x hx=>by simpa[cC]using h2 x hx) (fun x hx he=>by obtain⟨_,hd⟩:=h3 x hx (by simp[db,he]);cases hd) _ _ _
  | new i o=>
   simp only[bP,bR,gJ];rw[rI];exact one i o (fun x hx=>by simpa[cC]using h2 x hx) (fun x hx he=>by obtain⟨_,hd⟩:=h3 x hx (by simp[db,he]);cases hd) _ _ _
  | newq i o=>exact absurd rfl (h4 i o)
  | del i=>
   simp only[bP,bR,gJ]
   ext1
   ·funext x;simp only[dr,sP]
   ·funext x
    simp only[dr,nh,e6];by_cases h1:x=i
    ·simp[h1]
    ·simp[h1]
theorem Ct(a b:List Wr):bR (a++b)=bR a++bR b:=by
 induction a with
 | nil=>rfl
 | cons w r ih=>cases w<;>simp[bR,ih]
theorem kP(f:Fs)(a b:List Wr):cA f (a++b)=cA (cA f a) b:=by
 induction a generalizing f with
 | nil=>rfl
 | cons w r ih=>simp[cA,ih]
theorem GM(d:Option Nat)(v:V):bR (bz d v) = []:=by cases d<;>rfl
theorem zl(R:Nat->Nat)(h':Heap):∀ (l:List Nat) (i:Nat),bR (lU R h' i l) = []
 | [],_=>rfl
 | k::r,i=>by
  simp only[lU];split<;>simp[bR,zl R h' r]
theorem Bk(R:Nat->Nat)(h':Heap):∀ (l:List Nat),bR (qd R h' l)=l.map R
 | []=>rfl
 | k::r=>by
  simp only[qd];split<;>simp[bR,Bk R h' r]
theorem GL(tb:List Nat)(d:Option Nat)(v:V)(h':Heap):bR (cL tb d v h')=(dG h').map (eU tb (d.getD 0)):=by
 simp only[cL,Ct,Bk,zl,GM,List.append_nil]
theorem AP(R:Nat->Nat)(h':Heap):∀ (l:List Nat) (b:Nat) (f:Fs) (x:Nat) (o:Obj),(cA f (lU R h' b l)).heap x=some o ->
  (∃ k o0,l[k]?=some x/\get h' (b+k)=some o0/\o=kf R o0)\/(x∉l/\f.heap x=some o)
 | [],b,f,x,o,h=>.inr ⟨by simp,h⟩
 | k::r,b,f,x,o,h=>by
  simp only[lU,cA]at h;rcases AP R h' r (b+1) _ x o h with⟨j,o0,h1,h2,h3⟩|⟨h1,h2⟩
  ·exact .inl ⟨j+1,o0,by simpa using h1,by rw[show b+(j+1)=b+1+j by omega];exact h2,h3⟩
  ·by_cases hx:x=k
   ·subst hx
    left;split at h2
    ·rename_i o0 ho
     simp only[gJ,if_true,Option.some.injEq]at h2;exact⟨0,o0,by simp,ho,h2.symm⟩
    ·simp[gJ]at h2
   ·right
    refine⟨by simp[hx,h1],?_⟩;split at h2
    ·simpa[gJ,hx]using h2
    ·simpa[gJ,hx]using h2
theorem yB(R:Nat->Nat)(h':Heap):∀ (l:List Nat) (b:Nat) (f:Fs),(cA f (lU R h' b l)).env=f.env
 | [],b,f=>rfl
 | k::r,b,f=>by
  simp only[lU,cA];rw[yB R h' r];split<;>rfl
theorem Ea(R:Nat->Nat)(h':Heap):∀ (l:List Nat) (f:Fs) (x:Nat) (o:Obj),(∀ i∈l,(get h' i).isSome)->(cA f (qd R h' l)).heap x=some o ->
  (∃ i o0,i∈l/\x=R i/\get h' i=some o0/\o=kf R o0)\/(x∉l.map R/\f.heap x=some o)
 | [],f,x,o,_,h=>.inr ⟨by simp,h⟩
 | k::r,f,x,o,hl,h=>by
  simp only[qd,cA]at h;rcases Ea R h' r _ x o (fun i hi=>hl i (List.mem_cons_of_mem _ hi)) h with⟨i,o0,h1,h2,h3⟩|⟨h1,h2⟩
  ·exact .inl ⟨i,o0,List.mem_cons_of_mem _ h1,h2,h3⟩
  ·obtain⟨o0,ho⟩:=Option.isSome_iff_exists.1 (hl k (List.mem_cons_self ..))
   simp only[ho,gJ]at h2;by_cases hx:x=R k
   ·subst hx
    simp only[if_true,Option.some.injEq]at h2;exact .inl ⟨k,o0,List.mem_cons_self ..,rfl,ho,h2.symm⟩
   ·exact .inr ⟨by simpa[hx]using h1,by simpa[hx]using h2⟩
theorem Cb(R:Nat->Nat)(h':Heap):∀ (l:List Nat) (f:Fs),(cA f (qd R h' l)).env=f.env
 | [],f=>rfl
 | k::r,f=>by
  simp only[qd,cA];rw[Cb R h' r];split<;>rfl
theorem vG:∀ {h:Heap} {i:Nat},i∈dG h->(get h i).isSome
 | [],i,h=>by cases h
 | (k,p)::r,i,h=>by
  simp only[get];split
  ·rfl
  ·rename_i hk
   refine vG ?_;simp only[dG]at h;split at h
   ·exact h
   ·rcases List.mem_cons.1 h with rfl|h
    ·simp at hk
    ·exact h
end Go.PX
