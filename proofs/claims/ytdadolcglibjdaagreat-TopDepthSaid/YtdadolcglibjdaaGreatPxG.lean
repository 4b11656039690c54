import Derived.Test.YtdadolcglibjdaaGreatPxF
import Derived.RangeFuncLeaves
import Derived.RangeFuncRecord
set_option linter.all false
namespace Go.PX
open Go.RowKit
def qJ(f:V->V)(R:Nat->Nat->Prop):Prop:=∀ v x y,lE v=some y->gm (f v) x->R y x
mutual
theorem l5{f:V->V}{R:Nat->Nat->Prop}(hf:qJ f R):∀ (v:V) (x:Nat),gm (aE f v) x -> ∃ y,gm v y/\R y x
 | .d _,_,h=>h.elim
 | .agg cs,x,h=>e5 hf cs x h
 | .tup cs,x,h=>e5 hf cs x h
 | .clo _ cs,x,h=>e5 hf cs x h
 | .ifc _ cs,x,h=>e5 hf cs x h
 | .ptr i off,x,h=>⟨i,rfl,hf _ x i rfl h⟩
 | .ep i sz j off,x,h=>⟨i,rfl,hf _ x i rfl h⟩
 | .sl i sz off len,x,h=>⟨i,rfl,hf _ x i rfl h⟩
 | .mp i,x,h=>⟨i,rfl,hf _ x i rfl h⟩
 | .it i,x,h=>⟨i,rfl,hf _ x i rfl h⟩
 | .yld,_,h=>h.elim
 | .unk,_,h=>h.elim
theorem e5{f:V->V}{R:Nat->Nat->Prop}(hf:qJ f R):∀ (vs:List V) (x:Nat),bz (cb f vs) x -> ∃ y,bz vs y/\R y x
 | [],_,h=>h.elim
 | v::r,x,h=>by
  rcases h with h|h
  ·obtain⟨y,h1,h2⟩:=l5 hf v x h;exact⟨y,.inl h1,h2⟩
  ·obtain⟨y,h1,h2⟩:=e5 hf r x h;exact⟨y,.inr h1,h2⟩
end
theorem qq{f:V->V}{R:Nat->Nat->Prop}(hf:qJ f R)(o:Obj)(x:Nat)(h:kA (Obj.aE f o) x):∃ y,kA o y/\R y x:=by
 cases o with
 | box c=>cases c with
  | dd l=>exact(ee l x h).elim
  | vv l=>exact e5 hf l x h
 | arr sz es=>cases es with
  | dd l=>
   exfalso;have h:bz (cU l).flatten x:=h;rw[eb]at h;exact ee _ x h
  | vv l=>
   have h:bz (cS f l).flatten x:=h;rw[fg]at h;exact e5 hf l.flatten x h
 | map b0=>exact h.elim
 | iter s n=>exact h.elim
 | buf t s=>exact h.elim
 | tb t l=>exact e5 hf l x h
 | fz l=>exact e5 hf l x h
 | mit v n l u=>exact l5 hf v x h
theorem uj(k:Nat):qJ (aZ k) fun y x=>x=y/\x≠k:=by
 intro v x y hy h;simp only[aZ,hy]at h;split at h
 ·exact h.elim
 ·rename_i hk
  have XR:x=y:=by
   cases v<;>simp only[lE,Option.some.injEq]at hy<;>first|(cases hy;done)|skip
   all_goals (subst hy;exact(show _=_ from h).symm)
  subst XR;exact⟨rfl,by rintro rfl;simp at hk⟩
theorem D2(i j:Nat):qJ (gu i j) fun y x=>(y=i/\x=j)\/(y≠i/\x=y):=by
 intro v x y hy h;cases v<;>simp only[lE,Option.some.injEq]at hy<;>first|(cases hy;done)|skip
 all_goals
  subst hy;simp only[gu]at h;split at h
  ·rename_i hk
   exact .inl ⟨Nat.eq_of_beq_eq_true hk,(show _=_ from h).symm⟩
  ·rename_i hk
   exact .inr ⟨by rintro rfl;simp at hk,(show _=_ from h).symm⟩
mutual
theorem aT.move{yv:Option Nat}{L L':Loc}{F:Nat->Nat}{w:World}{i j:Nat}(hj:L'.ρ j=L.ρ i/\L'.κ j=L.κ i)(hx:∀ x,x≠j->L'.ρ x=L.ρ x/\L'.κ x=L.κ x):∀ (v:V) (x:Value),¬ gm v j->aT yv L F w v x->aT yv L' F w (aE (gu i j) v) x
 | .d v,_,_,hr=>hr
 | .agg cs,_,hn,hr=>by
  obtain⟨l,rfl,hl⟩:=hr;exact⟨l,rfl,aj.move hj hx cs _ hn hl⟩
 | .tup cs,_,hn,hr=>by
  obtain⟨l,rfl,hl⟩:=hr;exact⟨l,rfl,aj.move hj hx cs _ hn hl⟩
 | .ptr id off,x,hn,hr=>by
  have hr:x = .pointer (some ⟨L.ρ id,off,none⟩):=hr;have dR:id≠j:=hn;simp only[aE,gu];cases h:Nat.beq id i
  ·show x = .pointer (some ⟨L'.ρ id,off,none⟩)
   rw[(hx id dR).1];exact hr
  ·have:=Nat.eq_of_beq_eq_true h;subst this
   show x = .pointer (some ⟨L'.ρ j,off,none⟩);rw[hj.1];exact hr
 | .ep id sz k off,x,hn,hr=>by
  have hr:x = .pointer (some ⟨L.ρ id,k*sz+off,none⟩):=hr;have dR:id≠j:=hn;simp only[aE,gu];cases h:Nat.beq id i
  ·show x = .pointer (some ⟨L'.ρ id,k*sz+off,none⟩)
   rw[(hx id dR).1];exact hr
  ·have:=Nat.eq_of_beq_eq_true h;subst this
   show x = .pointer (some ⟨L'.ρ j,k*sz+off,none⟩);rw[hj.1];exact hr
 | .sl id sz off len,x,hn,hr=>by
  obtain⟨a,cap,rfl,hl,hs,hc⟩:=hr;have dR:id≠j:=hn;simp only[aE,gu];cases h:Nat.beq id i
  ·refine⟨a,cap,rfl,hl,hs,?_⟩
   rw[(hx id dR).1,(hx id dR).2];exact hc
  ·have:=Nat.eq_of_beq_eq_true h;subst this
   refine⟨a,cap,rfl,hl,hs,?_⟩;rw[hj.1,hj.2];exact hc
 | .mp id,x,hn,hr=>by
  have hr:x = .map (some (L.ρ id)):=hr;have dR:id≠j:=hn;simp only[aE,gu];cases h:Nat.beq id i
  ·show x = .map (some (L'.ρ id))
   rw[(hx id dR).1];exact hr
  ·have:=Nat.eq_of_beq_eq_true h;subst this
   show x = .map (some (L'.ρ j));rw[hj.1];exact hr
 | .it id,x,hn,hr=>by
  have hr:x = .pointer (some ⟨L.ρ id,0,none⟩):=hr;have dR:id≠j:=hn;simp only[aE,gu];cases h:Nat.beq id i
  ·show x = .pointer (some ⟨L'.ρ id,0,none⟩)
   rw[(hx id dR).1];exact hr
  ·have:=Nat.eq_of_beq_eq_true h;subst this
   show x = .pointer (some ⟨L'.ρ j,0,none⟩);rw[hj.1];exact hr
 | .clo f cs,_,hn,hr=>by
  obtain⟨l,rfl,hl⟩:=hr;exact⟨l,rfl,aj.move hj hx cs _ hn hl⟩
 | .ifc f cs,_,hn,hr=>by
  obtain⟨l,rfl,hl⟩:=hr;exact⟨l,rfl,aj.move hj hx cs _ hn hl⟩
 | .yld,_,_,hr=>hr
 | .unk,_,_,hr=>hr
theorem aj.move{yv:Option Nat}{L L':Loc}{F:Nat->Nat}{w:World}{i j:Nat}(hj:L'.ρ j=L.ρ i/\L'.κ j=L.κ i)(hx:∀ x,x≠j->L'.ρ x=L.ρ x/\L'.κ x=L.κ x):∀ (vs:List V) (l:List Value),¬ bz vs j->aj yv L F w vs l->aj yv L' F w (cb (gu i j) vs) l
 | [],_,_,hr=>hr
 | v::r,_,hn,hr=>by
  simp only[bz,not_or]at hn;obtain⟨x,l',rfl,hv,hl⟩:=hr;exact⟨x,l',rfl,aT.move hj hx v x hn.1 hv,aj.move hj hx r l' hn.2 hl⟩
end
section
variable {yv : Option Nat} {L L' : Loc} {F : Nat -> Nat} {w : World} {i j : Nat}
theorem bF.move(hj:L'.ρ j=L.ρ i/\L'.κ j=L.κ i)(hx:∀ x,x≠j->L'.ρ x=L.ρ x/\L'.κ x=L.κ x){id mI:Nat}(dR:L'.ρ mI=L.ρ id/\L'.κ mI=L.κ id)(o:Obj)(hn:¬ kA o j)
  (h:bF yv L F w id o):bF yv L' F w mI (Obj.aE (gu i j) o):=by
 cases o with
 | box c=>
  cases c with
  | dd l=>
   obtain⟨c,T,hc,hr⟩:=h;exact⟨c,T,by rw[dR.1];exact hc,aj.inj.2 (aj.inj.1 hr)⟩
  | vv l=>
   obtain⟨c,T,hc,hr⟩:=h;exact⟨c,T,by rw[dR.1];exact hc,aj.move hj hx _ _ hn hr⟩
 | arr sz es=>
  cases es with
  | dd l=>
   obtain⟨hs,hl,h⟩:=h;refine⟨hs,hl,?_⟩;rcases h with⟨h,hk⟩|⟨c,T,hc,hk,kQ,hr⟩
   ·exact .inl ⟨h,by rw[dR.2];exact hk⟩
   ·refine .inr ⟨c,T,by rw[dR.1];exact hc,by rw[dR.2];exact hk,kQ,?_⟩
    have hr:aj yv L F w (cU l).flatten _:=hr;show aj yv L' F w (cU l).flatten _;rw[eb]at hr ⊢;exact aj.inj.2 (aj.inj.1 hr)
  | vv l=>
   obtain⟨hs,hl,h⟩:=h;refine⟨hs,?_,?_⟩
   ·intro e he
    obtain⟨e0,h0,rfl⟩:=tn _ _ _ he;rw[jd];exact hl e0 h0
   ·rcases h with⟨h,hk⟩|⟨c,T,hc,hk,kQ,hr⟩
    ·left
     have h:l = []:=h;subst h;exact⟨rfl,by rw[dR.2];exact hk⟩
    ·right
     refine⟨c,T,by rw[dR.1];exact hc,by rw[dR.2];exact hk,?_,?_⟩
     ·show(cS _ l).length*sz<=_
      rw[fR];exact kQ
     ·show aj yv L' F w (cS _ l).flatten (c.toList.take ((cS _ l).length*sz))
      rw[fR,fg];exact aj.move hj hx _ _ hn hr
 | map b0=>obtain⟨en,c,hc,hr⟩:=h;exact⟨en,c,by rw[dR.1];exact hc,hr⟩
 | iter s n=>
  show w.heap[L'.ρ mI]?=_;rw[dR.1];exact h
 | buf t s=>
  obtain⟨c,h1,h2,h3⟩:=h;exact⟨c,by rw[dR.1];exact h1,by rw[dR.2];exact h2,h3⟩
 | tb t l=>
  obtain⟨c,hc,hr⟩:=h;exact⟨c,by rw[dR.1];exact hc,aj.move hj hx _ _ hn hr⟩
 | fz l=>
  obtain⟨c,hc,hr⟩:=h;exact⟨c,by rw[dR.1];exact hc,aj.move hj hx _ _ hn hr⟩
 | mit v n l u=>
  obtain⟨r,seen,h1,h2,h3⟩:=h;exact⟨r,seen,aT.move hj hx _ _ hn h1,by rw[dR.1];exact h2,h3⟩
theorem mh{f:V->V}{id mI:Nat}(hk:L'.κ mI=L.κ id)(o:Obj):aJ L' mI (Obj.aE f o)↔aJ L id o:=by
 cases o with
 | box c=>cases c<;>exact Iff.rfl
 | arr sz es=>cases es<;>simp[Obj.aE,aJ,hk]
 | map b0=>exact Iff.rfl
 | iter s n=>exact Iff.rfl
 | buf t s=>exact Iff.rfl
 | tb t l=>exact Iff.rfl
 | fz l=>exact Iff.rfl
 | mit v n l u=>exact Iff.rfl
theorem sh(h:aq)(hj:get h j=none)(x:Nat):get (l3 i j h) x=if x=j then (get h i).map (Obj.aE (gu i j)) else if x=i then none else (get h x).map (Obj.aE (gu i j)):=by
 induction h with
 | nil=>simp[l3,get]
 | cons kv r ih=>
  obtain⟨k,o⟩:=kv;have AO:k≠j:=by rintro rfl;simp[get]at hj
  have V7:Nat.beq k j=false:=by rw[Bool.eq_false_iff];exact fun e=>AO (Nat.eq_of_beq_eq_true e)
  have AN:get r j=none:=by simpa[get,V7]using hj
  simp only[l3]
  cases hk:Nat.beq k i with
  | true=>
   have:=Nat.eq_of_beq_eq_true hk;subst this;simp only[get];by_cases hx:x=j
   ·subst hx;simp
   ·have Zg:Nat.beq j x=false:=by rw[Bool.eq_false_iff];exact fun e=>hx (Nat.eq_of_beq_eq_true e).symm
    simp only[Zg,ih AN,hx,if_false];by_cases RM:x=k
    ·subst RM;simp
    ·have:Nat.beq k x=false:=by rw[Bool.eq_false_iff];exact fun e=>RM (Nat.eq_of_beq_eq_true e).symm
     simp[RM,this]
  | false=>
   have EN:k≠i:=by rintro rfl;simp at hk
   simp only[get]
   cases DP:Nat.beq k x with
   | true=>
    have:=Nat.eq_of_beq_eq_true DP;subst this;simp[AO,EN]
   | false=>simp only[ih AN,hk]
end
section
variable {σ : Type} {cx : Cx σ} {r : Option Nat} {m : List Nat} {L : Loc} {F : Nat -> Nat} {a : Act} {w : World} {e : Env} {h : aq} {s : σ}
theorem Good.kill(hh:Good cx r m L F ⟨e,h,s⟩ a w)(d:Nat):Good cx r m L F ⟨ct (aE (aZ d)) e,ct (Obj.aE (aZ d)) h,s⟩ a w:=by
 have hg:∀ i o',get (ct (Obj.aE (aZ d)) h) i=some o' -> ∃ o0,get h i=some o0/\o'=Obj.aE (aZ d) o0:=by
  intro i o' hi;rw[bs]at hi
  cases h0:get h i with
  | none=>simp[h0]at hi
  | some o0=>simp[h0]at hi;exact⟨o0,rfl,hi.symm⟩
 refine⟨⟨hh.heap.hg,hh.heap.j6,hh.heap.fresh,?_,?_,?_⟩,?_,hh.wA,hh.pR,hh.wS,hh.lk,hh.mT,hh.wm⟩
 ·intro i o' hi
  obtain⟨o0,h0,rfl⟩:=hg i o' hi;exact bF.kill d i o0 (hh.heap.obj i o0 h0)
 ·intro i o' hi hb
  obtain⟨o0,h0,rfl⟩:=hg i o' hi;exact hh.heap.own i o0 h0 ((cM L d i o0).1 hb)
 ·intro i j o' p hi hj md jv he
  obtain⟨o0,h0,rfl⟩:=hg i o' hi;obtain⟨p0,wN,rfl⟩:=hg j p hj;exact hh.heap.inj i j o0 p0 h0 wN ((cM L d i o0).1 md) ((cM L d j p0).1 jv) he
 ·intro t v ht
  simp only[bs]at ht
  cases h0:get e t with
  | none=>simp[h0]at ht
  | some v0=>
   simp[h0]at ht;subst ht;obtain⟨x,hx,hr⟩:=hh.env t v0 h0;exact⟨x,hx,aT.kill d v0 x hr⟩
theorem Good.move(hh:Good cx r m L F ⟨e,h,s⟩ a w){i j:Nat}(Zv:¬ pinned j)(px:i≠j)(hu:p7 ⟨get e,get h⟩ j) :
  Good cx r m ⟨fun x=>if x=j then L.ρ i else L.ρ x,fun x=>if x=j then L.κ i else L.κ x⟩ F ⟨ct (aE (gu i j)) e,l3 i j h,s⟩ a w:=by
 have hj:((⟨fun x=>if x=j then L.ρ i else L.ρ x,fun x=>if x=j then L.κ i else L.κ x⟩:Loc).ρ j=L.ρ i/\(⟨fun x=>if x=j then L.ρ i else L.ρ x,fun x=>if x=j then L.κ i else L.κ x⟩:Loc).κ j=L.κ i):=by simp
 have hx:∀ x,x≠j->((⟨fun x=>if x=j then L.ρ i else L.ρ x,fun x=>if x=j then L.κ i else L.κ x⟩:Loc).ρ x=L.ρ x/\(⟨fun x=>if x=j then L.ρ i else L.ρ x,fun x=>if x=j then L.κ i else L.κ x⟩:Loc).κ x=L.κ x):=by
  intro x hx;simp[hx]
 generalize (⟨fun x=>if x=j then L.ρ i else L.ρ x,fun x=>if x=j then L.κ i else L.κ x⟩:Loc)=L' at hj hx ⊢;have hg:∀ x o',get (l3 i j h) x=some o' -> ∃ y o0,get h y=some o0/\o'=Obj.aE (gu i j) o0/\(L'.ρ x=L.ρ y/\L'.κ x=L.κ y)/\((x=j/\y=i)\/(x≠j/\x≠i/\y=x)):=by
  intro x o' hi;rw[sh h hu.none]at hi;split at hi
  ·rename_i e1;subst e1
   cases h0:get h i with
   | none=>simp[h0]at hi
   | some o0=>simp[h0]at hi;exact⟨i,o0,h0,hi.symm,hj,.inl ⟨rfl,rfl⟩⟩
  ·rename_i e1
   split at hi
   ·cases hi
   ·rename_i e2
    cases h0:get h x with
    | none=>simp[h0]at hi
    | some o0=>simp[h0]at hi;exact⟨x,o0,h0,hi.symm,hx x e1,.inr ⟨e1,e2,rfl⟩⟩
 refine⟨⟨hh.heap.hg,hh.heap.j6,hh.heap.fresh,?_,?_,?_⟩,?_,hh.wA,hh.pR,hh.wS,hh.lk,fun x hp=>by
  have XQ:x≠j:=by rintro rfl;exact Zv hp
  rw[(hx x XQ).1,(hx x XQ).2];exact hh.mT x hp,hh.wm⟩
 ·intro x o' hi
  obtain⟨y,o0,h0,rfl,hl,_⟩:=hg x o' hi;exact bF.move hj hx hl o0 (hu.heap y o0 h0) (hh.heap.obj y o0 h0)
 ·intro x o' hi hb
  obtain⟨y,o0,h0,rfl,hl,_⟩:=hg x o' hi;rw[hl.1];exact hh.heap.own y o0 h0 ((mh hl.2 o0).1 hb)
 ·intro x x' o' p hi AN md jv he
  obtain⟨y,o0,h0,rfl,hl,hy⟩:=hg x o' hi;obtain⟨z,p0,wN,rfl,kQ,hz⟩:=hg x' p AN;rw[hl.1,kQ.1]at he;have:=hh.heap.inj y z o0 p0 h0 wN ((mh hl.2 o0).1 md) ((mh kQ.2 p0).1 jv) he;rcases hy with⟨rfl,rfl⟩|⟨h1,h2,rfl⟩<;>rcases hz with⟨rfl,rfl⟩|⟨h3,h4,rfl⟩
  ·rfl
  ·exact absurd this.symm h4
  ·exact absurd this h2
  ·exact this
 ·intro t v ht
  simp only[bs]at ht
  cases h0:get e t with
  | none=>simp[h0]at ht
  | some v0=>
   simp[h0]at ht;subst ht;obtain⟨x,j9,hr⟩:=hh.env t v0 h0;exact⟨x,j9,aT.move hj hx v0 x (hu.env t v0 h0) hr⟩
theorem yO{K:Env->aq->Prop}:∀ (l:List Nat) {L:Loc} {e:Env} {h:aq},(∀ d∈l,d<500000)->Good cx r m L F ⟨e,h,s⟩ a w->sY l e h K -> ∀ (B:Nat->Prop),(∀ d,B d->d<500000/\p7 ⟨get e,get h⟩ d) ->
  ∃ e' h' L',K e' h'/\Good cx r m L' F ⟨e',h',s⟩ a w /\ ∀ d,d∈l\/B d->p7 ⟨get e',get h'⟩ d
 | [],L,e,h,_,hg,hk,B,hB=>⟨e,h,L,hk,hg,fun d hd=>(hd.elim (fun h=>by cases h) fun h=>(hB d h).2)⟩
 | d::l,L,e,h,hl,hg,hk,B,hB=>by
  have hd:d<500000:=hl d (List.mem_cons_self ..);have kill:∀ k (e:Env) (h:aq),(∀ x,p7 ⟨get e,get h⟩ x->p7 ⟨get (ct (aE (aZ k)) e),get (ct (Obj.aE (aZ k)) h)⟩ x) /\
    (get h k=none->p7 ⟨get (ct (aE (aZ k)) e),get (ct (Obj.aE (aZ k)) h)⟩ k):=by
   intro k e h;have hn:∀ x,(get h x=none)->(∀ y,x=y/\x≠k->¬ (∃ s v,get e s=some v/\gm v y)/\¬ (∃ s v,get h s=some v/\kA v y))->p7 ⟨get (ct (aE (aZ k)) e),get (ct (Obj.aE (aZ k)) h)⟩ x:=by
    intro x h0 hy;refine⟨by simp[bs,h0],fun t v ht vd=>?_,fun t o ht vd=>?_⟩
    ·simp only[bs]at ht
     cases h1:get e t with
     | none=>simp[h1]at ht
     | some v0=>
      simp[h1]at ht;subst ht;obtain⟨y,h2,h3⟩:=l5 (uj k) v0 x vd;exact(hy y h3).1 ⟨t,v0,h1,h2⟩
    ·simp only[bs]at ht
     cases h1:get h t with
     | none=>simp[h1]at ht
     | some v0=>
      simp[h1]at ht;subst ht;obtain⟨y,h2,h3⟩:=qq (uj k) v0 x vd;exact(hy y h3).2 ⟨t,v0,h1,h2⟩
   refine⟨fun x hx=>hn x hx.none fun y hy=>?_,fun h0=>hn k h0 fun y hy=>absurd rfl hy.2⟩;obtain⟨rfl,_⟩:=hy;exact⟨fun⟨t,v,h1,h2⟩=>hx.env t v h1 h2,fun⟨t,v,h1,h2⟩=>hx.heap t v h1 h2⟩
  have next:∀ (e2:Env) (h2:aq) (L2:Loc),Good cx r m L2 F ⟨e2,h2,s⟩ a w->p7 ⟨get e2,get h2⟩ d->(∀ x,B x->p7 ⟨get e2,get h2⟩ x)->sY l e2 h2 K ->
    ∃ e' h' L',K e' h'/\Good cx r m L' F ⟨e',h',s⟩ a w /\ ∀ x,x∈d::l\/B x->p7 ⟨get e',get h'⟩ x:=by
   intro e2 h2 L2 mf ZH QM iQ;obtain⟨e',h',L',k1,k2,k3⟩:=yO l (fun x hx=>hl x (List.mem_cons_of_mem _ hx)) mf iQ (fun x=>x=d\/B x) (fun x hx=>by
    rcases hx with rfl|hx
    ·exact⟨hd,ZH⟩
    ·exact⟨(hB x hx).1,QM x hx⟩)
   refine⟨e',h',L',k1,k2,fun x hx=>k3 x ?_⟩;rcases hx with hx|hx
   ·rcases List.mem_cons.1 hx with rfl|hx
    ·exact .inr (.inl rfl)
    ·exact .inl hx
   ·exact .inr (.inr hx)
  have hk:(match get h d with
   | none=>eB (ct (aE (aZ d)) e) fun e=>gj (ct (Obj.aE (aZ d)) h) fun h=>sY l e h K
   | some _=>eB (ct (aE (gu d (500000+d))) (ct (aE (aZ (500000+d))) e)) fun e=>
    gj (l3 d (500000+d) (ct (Obj.aE (aZ (500000+d))) (cut h (500000+d)))) fun h=>sY l e h K):=hk
  split at hk
  ·rename_i h0
   rw[gO,gP]at hk;exact next _ _ L (hg.kill d) ((kill d e h).2 h0) (fun x hx=>(kill d e h).1 x (hB x hx).2) hk
  ·rename_i dC _ o0 h0
   clear dC;rw[gO,gP]at hk;have fP:Good cx r m L F ⟨e,cut h (500000+d),s⟩ a w:=hg.sub (fun _ _ h=>h) fun i o hi=>by
    rw[dP]at hi;split at hi
    ·cases hi
    ·exact hi
   have mf:=fP.kill (500000+d);have hu:=(kill (500000+d) e (cut h (500000+d))).2 (by simp[dP]);have Vs:∀ x,B x->p7 ⟨get e,get (cut h (500000+d))⟩ x:=fun x hx=>by
    have hu:=(hB x hx).2;have n3:∀ i o,get (cut h (500000+d)) i=some o->get h i=some o:=fun i o hi=>by
     rw[dP]at hi;split at hi
     ·cases hi
     ·exact hi
    refine⟨?_,hu.env,fun i o hi=>hu.heap i o (n3 i o hi)⟩
    cases hc:get (cut h (500000+d)) x with
    | none=>exact hc
    | some o=>have h1:=n3 x o hc;have h2:get h x=none:=hu.none;rw[h2]at h1;cases h1
   have QM:=fun x hx=>(kill (500000+d) e (cut h (500000+d))).1 x (Vs x hx);generalize ct (aE (aZ (500000+d))) e=e1 at hk mf hu QM;generalize ct (Obj.aE (aZ (500000+d))) (cut h (500000+d))=h1 at hk mf hu QM;have XO:∀ x,x≠500000+d->(x=d\/p7 ⟨get e1,get h1⟩ x)->p7 ⟨get (ct (aE (gu d (500000+d))) e1),get (l3 d (500000+d) h1)⟩ x:=by
    intro x hx Jr;have SE:∀ y,(y=d/\x=500000+d)\/(y≠d/\x=y)->x≠d/\x=y:=by
     rintro y (⟨_,h⟩|⟨h,rfl⟩)
     ·exact absurd h hx
     ·exact⟨h,rfl⟩
    have WH:x≠d->p7 ⟨get e1,get h1⟩ x:=fun h=>Jr.resolve_left h;refine⟨?_,fun t v ht vd=>?_,fun t o ht vd=>?_⟩
    ·show get (l3 d (500000+d) h1) x=none
     rw[sh h1 hu.none,if_neg hx];split
     ·rfl
     ·rename_i ZR
      have:get h1 x=none:=(WH ZR).none;rw[this];rfl
    ·simp only[bs]at ht
     cases za:get e1 t with
     | none=>simp[za]at ht
     | some v0=>
      simp[za]at ht;subst ht;obtain⟨y,h2,h3⟩:=l5 (D2 d (500000+d)) v0 x vd;obtain⟨h4,rfl⟩:=SE y h3;exact(WH h4).env t v0 za h2
    ·have ht:get (l3 d (500000+d) h1) t=some o:=ht
     rw[sh h1 hu.none]at ht;have:∃ y o0,get h1 y=some o0/\o=Obj.aE (gu d (500000+d)) o0:=by
      split at ht
      ·cases za:get h1 d with
       | none=>simp[za]at ht
       | some v0=>simp[za]at ht;exact⟨d,v0,za,ht.symm⟩
      ·split at ht
       ·cases ht
       ·cases za:get h1 t with
        | none=>simp[za]at ht
        | some v0=>simp[za]at ht;exact⟨t,v0,za,ht.symm⟩
     obtain⟨z,o0,za,rfl⟩:=this;obtain⟨y,h2,h3⟩:=qq (D2 d (500000+d)) o0 x vd;obtain⟨h4,rfl⟩:=SE y h3;exact(WH h4).heap z o0 za h2
   have Sv:=mf.move (i:=d) (j:=500000+d) (by unfold pinned;omega) (by omega) hu;exact next _ _ _ Sv (XO d (by omega) (.inl rfl)) (fun x hx=>XO x (by have:=(hB x hx).1;omega) (.inr (QM x hx))) hk
end
end Go.PX
namespace Go.PX
open Go.RowKit
structure xd(P:Program)(ops:Array Oper)(fF:List OT)(q:Rec):Prop where
 op:∃ o t,ops[q.idx]?=some o/\fF[q.idx]?=some t/\q.iX=t.iX/\(∀ x∈ma q.ws,o.dst=some x)/\(∀ x v,get q.e x=some v->x∈t.ts)
 hk:∀ x v,get q.h x=some v->x∈q.os
 news:dD q.ws=true
 snd:qK P ops q
theorem apart_spec{a b:OO}(h:apart a b=true):iO a.mo b.os=true/\iO a.mo b.mo=true/\iO b.mo a.os=true/\iO b.nw a.rW=true:=by
 unfold apart at h;split at h
 ·rename_i h1 h2 h3 h4;exact⟨h1,h2,h3,h4⟩
 ·cases h
theorem pH{o:OO}{acc:List OO}:∀ {l:List Nat},kg o acc l=true -> ∀ i∈l,∀ p,acc[i]?=some p->apart o p=true
 | [],_,i,hi,_,_=>by cases hi
 | k::r,h,i,hi,p,hp=>by
  simp only[kg]at h;split at h;case h_2=>cases h
  rename_i p' EU;split at h;case h_2=>cases h
  rename_i VE;rcases List.mem_cons.1 hi with rfl|hi
  ·rw[hp]at EU;cases EU;exact VE
  ·exact pH h i hi p hp
theorem tv{mk:List Nat}:∀ {acc:List OO},qs mk acc=true -> ∀ p∈acc,iO mk p.rW=true/\iO mk p.mo=true
 | [],_,p,hp=>by cases hp
 | q::r,h,p,hp=>by
  simp only[qs]at h;split at h;case h_2=>cases h
  rename_i h1 h2;rcases List.mem_cons.1 hp with rfl|hp
  ·exact⟨h1,h2⟩
  ·exact tv h p hp
theorem jn{α:Type}:∀ (l:List Nat) (t:sW α) (s:Nat) (u:α),get (aQ l t) s=some u->s∈l
 | l,[],s,u,h=>by cases h
 | l,(k,v)::r,s,u,h=>by
  simp only[aQ]at h;split at h
  ·rename_i hk
   simp only[get]at h;split at h
   ·rename_i he;have:=Nat.eq_of_beq_eq_true he;subst this;exact eZ.1 hk
   ·exact jn l r s u h
  ·exact jn l r s u h
theorem gZ{d:Option Nat}:∀ {ws:List Wr},mZ d ws=true -> ∀ x∈ma ws,d=some x
 | [],_,x,hx=>by cases hx
 | w::r,h,x,hx=>by
  cases w with
  | set s v=>
   simp only[mZ]at h;split at h;case h_2=>cases h
   rename_i k;split at h;case h_2=>cases h
   rename_i hk;simp only[ma,List.mem_cons]at hx;rcases hx with rfl|hx
   ·rw[Nat.eq_of_beq_eq_true hk]
   ·exact gZ h x hx
  | _=>exact gZ (ws:=r) h x hx
theorem GQ{ops:Array Oper}{e:Env}{guard:Option (Nat×Bool)}{X Z:List Wr->Prop}(hk:mC ops.toList e guard X Z) :
  ∃ (b:Bool) (ws:List Wr),((b=true/\X ws)\/(b=false/\Z ws))/\(ws = [] \/ ∃ d v,ws = [.set d v]/\get e d=some v) /\
   ∀ {σ:Type} {cx:Cx σ} {r:Option Nat} {m:List Nat} {L:Loc} {F:Nat->Nat} {st:St σ} {a:Act} {w:World} {dst:Option Nat} {op:Op} {ty:TypeId} {pos:String} {after:Array Edge},
    cN e st.env->Good cx r m L F st a w->Region.wanted ⟨dst,op,ty,pos,after,guard⟩ (yielded ops a.tmps)=b:=by
 unfold mC at hk;split at hk
 ·exact⟨true,[],.inl ⟨rfl,hk⟩,.inl rfl,fun _ _=>rfl⟩
 ·rename_i j Nu
  split at hk;case h_2=>exact hk.elim
  rename_i d _ _ _ _ _ hj;have AN:(ops[j]?).bind (·.dst)=some d:=by
   rw[Array.getElem?_toList]at hj;rw[hj];rfl
  split at hk
  ·rename_i b hb
   have hy:∀ {σ:Type} {cx:Cx σ} {r:Option Nat} {m:List Nat} {L:Loc} {F:Nat->Nat} {st:St σ} {a:Act} {w:World},cN e st.env->Good cx r m L F st a w->yielded ops a.tmps j=some b:=by
    intro σ cx r m L F st a w he hg;obtain⟨x,hx,hr⟩:=hg.env d _ (he _ _ hb);have hr:x = .bool b:=hr;subst hr;unfold yielded;rw[AN];simp[hx]
   split at hk
   ·rcases uM hk with⟨rfl,hk⟩|⟨rfl,hk⟩
    ·exact⟨true,_,.inl ⟨rfl,hk⟩,.inr ⟨d,_,rfl,hb⟩,fun he hg=>by simp[Region.wanted,hy he hg]⟩
    ·exact⟨false,_,.inr ⟨rfl,hk⟩,.inr ⟨d,_,rfl,hb⟩,fun he hg=>by simp[Region.wanted,hy he hg]⟩
   ·rcases uM hk with⟨rfl,hk⟩|⟨rfl,hk⟩
    ·exact⟨false,_,.inr ⟨rfl,hk⟩,.inr ⟨d,_,rfl,hb⟩,fun he hg=>by simp[Region.wanted,hy he hg]⟩
    ·exact⟨true,_,.inl ⟨rfl,hk⟩,.inr ⟨d,_,rfl,hb⟩,fun he hg=>by simp[Region.wanted,hy he hg]⟩
  ·rename_i hb
   refine⟨false,[],.inr ⟨rfl,hk⟩,.inl rfl,fun {σ cx r m L F st a w} _ _ _ _ _ he hg=>?_⟩;obtain⟨x,hx,l,rfl,hl⟩:=hg.env d _ (he _ _ hb);have hy:yielded ops a.tmps j=none:=by
    unfold yielded;rw[AN];simp[hx]
   simp[Region.wanted,hy]
  ·exact hk.elim
theorem GI{σ:Type}{e:Env}{h:aq}{s:σ}{ws:List Wr}(hw:ws = [] \/ ∃ d v,ws = [.set d v]/\get e d=some v):cz (aF (⟨e,h,s⟩:St σ) ws)=⟨get e,get h⟩:=by
 rcases hw with rfl|⟨d,v,rfl,hv⟩
 ·rfl
 ·simp only[cz,aF,bm]
  congr 1
  funext x
  rw[db];split
  ·rename_i he;subst he;exact hv.symm
  ·rfl
theorem Iw(P:Program)(T:dV)(made:List Nat)(ops:List Oper)(dst:Option Nat)(op:Op)(ty:TypeId)(pos:String)(after:Array Edge)(guard:Option (Nat×Bool))(ts iX:List Nat)(l:List (Oper×OT))(acc:List OO)(e:Env)(h:aq)(K:Env->aq->Prop) :
  Dj P T made ops ((⟨dst,op,ty,pos,after,guard⟩,⟨ts,iX⟩)::l) acc e h K=(cP (looksAt op e h ts) fun os=>eB (aQ ts e) fun e'=>gj (aQ os h) fun h'=>
    mC ops e' guard
     (fun w=>
      let go:=fun ws=>cP (cp ws) fun mo=>cP (bw ws) fun mk=>cP (bQ ws) fun rW=>
       eW (jP dst made acc iX ws ⟨os,mo,mk,rW⟩) (bg w e h fun e h=>bg (pC ws) e h fun e h=>Dj P T made ops l (acc ++ [⟨os,mo,mk,rW⟩]) e h K)
      match op with
      | .call ⟨callee,args,tys⟩=>match callee with
       | .builtin b=>dZ T e' h' dst b args tys go
       | .value f=>match aH e' f,cE e' args.toList with
        | some (.d (.clo g aL)),some l=>dh P e' h' dst g (l++inj aL) go
        | some (.clo g aL),some l=>dh P e' h' dst g (l++aL) go
        | _,_=>False
       | .invoke f name=>match aH e' f,cE e' args.toList with
        | some (.d (.ifc t v)),some l=>yB P t name fun g=>dh P e' h' dst g (.d v::l) go
        | some (.ifc t [v]),some l=>yB P t name fun g=>dh P e' h' dst g (v::l) go
        | _,_=>False
      | op=>fK T e' h' dst op go)
     (fun w=>eW (kg ⟨os,[],[],[]⟩ acc iX) (bg w e h fun e h=>bg (aO dst (.d (.tup []))) e h fun e h=>Dj P T made ops l (acc ++ [⟨os,[],[],[]⟩]) e h K))):=rfl
section
variable {P : Program} {T : dV}
theorem xT{ops:Array Oper}{q:Rec}{o:Oper}(ho:ops[q.idx]?=some o)
  (hw:∀ {σ:Type} {cx:Cx σ} {r:Option Nat} {m:List Nat} {L:Loc} {F:Nat->Nat} {st:St σ} {a:Act} {w:World},cN q.e st.env->Good cx r m L F st a w->Region.wanted o (yielded ops a.tmps)=true)
  (iR:Out P q.e q.h o q.ws) (wD:∀ c,o.op ≠ .defer c):qK P ops q:=by
 intro σ cx tN r m L F st a w he hh hg hd next Q hn
 simp only[wpOpIn,ho];rw[if_pos (hw he hg)];exact Br iR he hh hg (hd o ho) wD fun x L' F' w' eL tr=>hn _ L' F' w' (dz x) eL tr
theorem Fe{ops:Array Oper}{q:Rec}{dst:Option Nat}{f:Operand}{n:String}{args:Array Operand}{tys:Array TypeId}{ty:TypeId}{pos:String}{after:Array Edge}{guard:Option (Nat×Bool)}
  (ho:ops[q.idx]?=some ⟨dst,.call ⟨.invoke f n,args,tys⟩,ty,pos,after,guard⟩)
  (hw:∀ {σ:Type} {cx:Cx σ} {r:Option Nat} {m:List Nat} {L:Loc} {F:Nat->Nat} {st:St σ} {a:Act} {w:World},cN q.e st.env->Good cx r m L F st a w->Region.wanted ⟨dst,.call ⟨.invoke f n,args,tys⟩,ty,pos,after,guard⟩ (yielded ops a.tmps)=true)
  {t:TypeId} {v:D} {g:FuncId} {l':List V} (hl:cE q.e args.toList=some l') (hf:aH q.e f=some (.d (.ifc t v)))
  (hm:∀ v w,(method (P.types.size+Made.depth) t v n).run P w = .ok (g,v) w)
  (iR:fx P q.e q.h dst g (.d v::l') q.ws):qK P ops q:=by
 intro σ cx tN r m L F st a w he hh hg hd next Q hn
 simp only[wpOpIn,ho];rw[if_pos (hw he hg)];obtain⟨lV,cJ⟩:=iR;have eL:Good cx r m L F ⟨q.e,st.heap,st.s⟩ a w:=hg.sub he (fun _ _ h=>h);obtain⟨y,cF,hv⟩:=eL.aH hf;have bR:=AZ eL hl hv;have cJ:=cJ cx tN r m L F st a w (#[y]++args.map a.eval) he hh hg (hd _ ho) bR;refine⟨fun _ _=>trivial,?_⟩;rw[Oper.semAt_eq _ _ _ (fun c e=>by cases e),ur hm lV cF,Oper.uponIn_enter];refine⟨(fun h=>by cases h),(fN cJ).mono ?_⟩;rintro en w' ⟨x,rfl,L',F',eL,nA⟩;exact hn _ L' F' w' (dz x) eL nA
theorem CM{ops:Array Oper}{q:Rec}{dst:Option Nat}{f:Operand}{n:String}{args:Array Operand}{tys:Array TypeId}{ty:TypeId}{pos:String}{after:Array Edge}{guard:Option (Nat×Bool)}
  (ho:ops[q.idx]?=some ⟨dst,.call ⟨.invoke f n,args,tys⟩,ty,pos,after,guard⟩)
  (hw:∀ {σ:Type} {cx:Cx σ} {r:Option Nat} {m:List Nat} {L:Loc} {F:Nat->Nat} {st:St σ} {a:Act} {w:World},cN q.e st.env->Good cx r m L F st a w->Region.wanted ⟨dst,.call ⟨.invoke f n,args,tys⟩,ty,pos,after,guard⟩ (yielded ops a.tmps)=true)
  {t:TypeId} {v:V} {g:FuncId} {l':List V} (hl:cE q.e args.toList=some l') (hf:aH q.e f=some (.ifc t [v]))
  (hm:∀ v w,(method (P.types.size+Made.depth) t v n).run P w = .ok (g,v) w)
  (iR:fx P q.e q.h dst g (v::l') q.ws):qK P ops q:=by
 intro σ cx tN r m L F st a w he hh hg hd next Q hn
 simp only[wpOpIn,ho];rw[if_pos (hw he hg)];obtain⟨lV,cJ⟩:=iR;have eL:Good cx r m L F ⟨q.e,st.heap,st.s⟩ a w:=hg.sub he (fun _ _ h=>h);obtain⟨y,cF,hv⟩:=(eL.aH hf).ifc;have bR:=xK eL hl hv;have cJ:=cJ cx tN r m L F st a w (#[y]++args.map a.eval) he hh hg (hd _ ho) bR;refine⟨fun _ _=>trivial,?_⟩;rw[Oper.semAt_eq _ _ _ (fun c e=>by cases e),ur hm lV cF,Oper.uponIn_enter];refine⟨(fun h=>by cases h),(fN cJ).mono ?_⟩;rintro en w' ⟨x,rfl,L',F',eL,nA⟩;exact hn _ L' F' w' (dz x) eL nA
theorem vG{ops:Array Oper}{q:Rec}{dst:Option Nat}{f:Operand}{args:Array Operand}{tys:Array TypeId}{ty:TypeId}{pos:String}{after:Array Edge}{guard:Option (Nat×Bool)}
  (ho:ops[q.idx]?=some ⟨dst,.call ⟨.value f,args,tys⟩,ty,pos,after,guard⟩)
  (hw:∀ {σ:Type} {cx:Cx σ} {r:Option Nat} {m:List Nat} {L:Loc} {F:Nat->Nat} {st:St σ} {a:Act} {w:World},cN q.e st.env->Good cx r m L F st a w->Region.wanted ⟨dst,.call ⟨.value f,args,tys⟩,ty,pos,after,guard⟩ (yielded ops a.tmps)=true)
  {g:FuncId} {Al:List V} {l':List V} (hl:cE q.e args.toList=some l')
  (hf:∀ {σ:Type} {cx:Cx σ} {r:Option Nat} {m:List Nat} {L:Loc} {F:Nat->Nat} {st:St σ} {a:Act} {w:World},cN q.e st.env->Good cx r m L F st a w -> ∃ lc:Array Value,a.eval f = .func (.func g) #[] lc/\aj cx.yv L F w Al lc.toList)
  (iR:fx P q.e q.h dst g (l'++Al) q.ws):qK P ops q:=by
 intro σ cx tN r m L F st a w he hh hg hd next Q hn
 simp only[wpOpIn,ho];rw[if_pos (hw he hg)];obtain⟨lc,cF,kq⟩:=hf he hg;obtain⟨lV,cJ⟩:=iR;have qD:∃ vs:List Value,aj cx.yv L F w l' (args.toList.map a.eval):=⟨[],by
  have eL:Good cx r m L F ⟨q.e,st.heap,st.s⟩ a w:=hg.sub he (fun _ _ h=>h);exact eL.cE hl⟩
 obtain⟨_,qD⟩:=qD;have bR:aj cx.yv L F w (l'++Al) (args.map a.eval++lc).toList:=by
  simpa using qD.append kq
 have cJ:=cJ cx tN r m L F st a w (args.map a.eval++lc) he hh hg (hd _ ho) bR;have bt:(execOp a.eval ⟨dst,.call ⟨.value f,args,tys⟩,ty,pos,after,guard⟩).run P w = .ok (.enter g (args.map a.eval++lc)) w:=by
  simp[execOp,resolve,Deferred.ofValue,cF,invoke,lV]
 refine⟨fun _ _=>trivial,?_⟩;rw[Oper.semAt_eq _ _ _ (fun c e=>by cases e),bt,Oper.uponIn_enter];refine⟨(fun h=>by cases h),(fN cJ).mono ?_⟩;rintro en w' ⟨x,rfl,L',F',eL,nA⟩;exact hn _ L' F' w' (dz x) eL nA
theorem CN{ops:Array Oper}{q:Rec}{o:Oper}(ho:ops[q.idx]?=some o)(EZ:q.ws=aO o.dst (.d (.tup [])))
  (hw:∀ {σ:Type} {cx:Cx σ} {r:Option Nat} {m:List Nat} {L:Loc} {F:Nat->Nat} {st:St σ} {a:Act} {w:World},cN q.e st.env->Good cx r m L F st a w->Region.wanted o (yielded ops a.tmps)=false):qK P ops q:=by
 intro σ cx tN r m L F st a w he hh hg hd next Q hn
 simp only[wpOpIn,ho];rw[if_neg (by rw[hw he hg];simp)];refine⟨fun _ _=>trivial,?_⟩;refine hn _ L F w (dz _) ?_ (Tr.refl F w);rw[EZ];exact hg.aO (x:=undef) (hd o ho) ⟨#[],rfl,rfl⟩
theorem Ix(hT:bl P T){ops:Array Oper}{fF:List OT}{made:List Nat}(mG:rB ops.toList fF ops.toList fF=true):∀ (l:List (Oper×OT)) (acc:List Rec),(∀ j p,l[j]?=some p->ops[acc.length+j]?=some p.1/\fF[acc.length+j]?=some p.2) ->
  (∀ k q,acc[k]?=some q->q.idx=k/\xd P ops fF q)->acc.Pairwise Pr -> ∀ {e:Env} {h:aq} {K:Env->aq->Prop},Dj P T made ops.toList l (acc.map Rec.oo) e h K ->
  ∃ (R:List Rec) (eN:Env) (hN:aq),K eN hN/\pk R ⟨get e,get h⟩ ⟨get eN,get hN⟩/\R.length=l.length/\(∀ k q,(acc++R)[k]?=some q->q.idx=k/\xd P ops fF q)/\(acc++R).Pairwise Pr /\ ∀ q∈R,∀ x∈bw q.ws,x∈made
 | [],acc,_,hacc,wO,e,h,K,hk=>⟨[],e,h,hk,rfl,rfl,by simpa using hacc,by simpa using wO,fun q hq=>by cases hq⟩
 | (⟨dst,op,ty,pos,after,guard⟩,⟨ts,iX⟩)::l,acc,hl,hacc,wO,e,h,K,hk=>by
  obtain⟨ho,Js⟩:=hl 0 (⟨dst,op,ty,pos,after,guard⟩,⟨ts,iX⟩) rfl;simp only[Nat.add_zero]at ho Js;have kQ:∀ j p,l[j]?=some p->ops[acc.length+1+j]?=some p.1/\fF[acc.length+1+j]?=some p.2:=fun j p hp=>by
   have:=hl (j+1) p (by simpa using hp)
   rwa [show acc.length+(j+1)=acc.length+1+j by omega]at this
  rw[Iw]at hk;rw[lS,gO,gP]at hk;generalize NH:looksAt op e h ts=os at hk;obtain⟨b,lw,Q2,Cn,n4⟩:=GQ hk;clear hk;have Jm:lw = [] \/ ∃ d v,lw = [.set d v]/\get e d=some v:=Cn.imp id fun⟨d,v,h1,h2⟩=>⟨d,v,h1,g6 ts e d v h2⟩;have rest:∀ (ws:List Wr),dD ws=true->mZ dst ws=true->(∀ x∈bw ws,x∈made)->kg ⟨os,cp ws,bw ws,bQ ws⟩ (acc.map Rec.oo) iX=true->qs (bw ws) (acc.map Rec.oo)=true ->
    qK P ops ⟨acc.length,aQ ts e,aQ os h,os,ws,iX⟩->(bg lw e h fun e h=>bg (pC ws) e h fun e h=>Dj P T made ops.toList l (acc.map Rec.oo ++ [⟨os,cp ws,bw ws,bQ ws⟩]) e h K) ->
    ∃ (R:List Rec) (eN:Env) (hN:aq),K eN hN/\pk R ⟨get e,get h⟩ ⟨get eN,get hN⟩/\R.length=l.length+1/\(∀ k q,(acc++R)[k]?=some q->q.idx=k/\xd P ops fF q)/\(acc++R).Pairwise Pr /\ ∀ q∈R,∀ x∈bw q.ws,x∈made:=by
   intro ws Hc DS td VE rk MZ hk;rw[cu (),cu ()]at hk;have FP:=GI (s:=()) (h:=h) Jm;generalize (aF (⟨e,h,()⟩:St Unit) lw)=zK at hk FP;have Rc:=AB ws (⟨zK.env,zK.heap,()⟩:St Unit);generalize (aF (⟨zK.env,zK.heap,()⟩:St Unit) (pC ws))=sL at hk Rc;have VX:(⟨get sL.env,get sL.heap⟩:Fs)=bT ⟨get e,get h⟩ ws:=by
    rw[<- FP];exact Rc
   have hq:xd P ops fF ⟨acc.length,aQ ts e,aQ os h,os,ws,iX⟩:=
    ⟨⟨_,_,ho,Js,rfl,gZ DS,fun x v hx=>jn ts e x v hx⟩,fun x v hx=>jn os h x v hx,Hc,MZ⟩
   have MN:∀ p∈acc,Pr p ⟨acc.length,aQ ts e,aQ os h,os,ws,iX⟩:=by
    intro p hp;obtain⟨k,jc,Zi⟩:=List.mem_iff_getElem.1 hp;have Rk:acc[k]?=some p:=by rw[List.getElem?_eq_getElem jc,Zi]
    obtain⟨Ji,Rz⟩:=hacc k p Rk;have gF:p.oo∈acc.map Rec.oo:=List.mem_map.2 ⟨p,hp,rfl⟩;obtain⟨sq,ER⟩:=tv rk p.oo gF;have sq:=fV sq;have ER:=fV ER;refine⟨by show p.idx<acc.length;omega,fun py=>?_,sq,ER⟩;have py:p.idx∈iX:=py;have ha:=apart_spec (pH VE p.idx py p.oo (by rw[Ji,List.getElem?_map,Rk];rfl));have a1:=fV ha.1;have a2:=fV ha.2.1;have a3:=fV ha.2.2.1;have a4:=fV ha.2.2.2;obtain⟨po,pt,Zw,SF,XH,Cr,MK⟩:=Rz.op;obtain⟨o1,t1,MJ,XM,d1,d2,d3⟩:=tA (rC mG acc.length _ _ (by simpa using ho) Js) p.idx py;have Rt:ops[p.idx]?=some o1:=by simpa using MJ
    rw[Zw]at Rt;cases Rt;rw[SF]at XM;cases XM;have uo:∀ {α:Type} {t:sW α} {x:Nat},(∀ v,get t x=some v->False)->get t x=none:=by
     intro α t x hx
     cases hc:get t x with
     | none=>rfl
     | some v=>exact(hx v hc).elim
    refine⟨⟨fun x hx=>?_,fun x hx=>?_,fun x hx j9=>?_,fun x hx j9=>?_,fun x hx=>a4 x hx⟩,⟨fun x hx=>?_,fun x hx=>?_,fun x hx j9=>?_,fun x hx j9=>?_,fun x hx=>sq x hx⟩⟩
    ·exact uo fun v hv=>d1 x (Cr x hx) (jn ts e x v hv)
    ·exact uo fun v hv=>a3 x hx (jn os h x v hv)
    ·exact d3 x (Cr x hx) (gZ DS x j9)
    ·exact a2 x j9 hx
    ·exact uo fun v hv=>d2 x (gZ DS x hx) (MK x v hv)
    ·exact uo fun v hv=>a1 x hx (Rz.hk x v hv)
    ·exact d3 x (Cr x j9) (gZ DS x hx)
    ·exact a2 x hx j9
   have QV:∀ k q,(acc ++ [(⟨acc.length,aQ ts e,aQ os h,os,ws,iX⟩:Rec)])[k]?=some q->q.idx=k/\xd P ops fF q:=by
    intro k q wC;rcases Nat.lt_trichotomy k acc.length with dI|heq|Sw
    ·rw[List.getElem?_append_left dI]at wC
     exact hacc k q wC
    ·subst heq
     simp at wC;subst wC;exact⟨rfl,hq⟩
    ·rw[List.getElem?_eq_none (by simp;omega)]at wC
     cases wC
   have Wo:(acc ++ [(⟨acc.length,aQ ts e,aQ os h,os,ws,iX⟩:Rec)]).Pairwise Pr:=
    List.pairwise_append.2 ⟨wO,List.pairwise_singleton _ _,fun x hx y hy=>by
     rcases List.mem_singleton.1 hy with rfl;exact MN x hx⟩
   obtain⟨R,eN,hN,k1,k2,k3,k4,k5,k6⟩:=Ix hT mG l (acc ++ [⟨acc.length,aQ ts e,aQ os h,os,ws,iX⟩]) (by simpa using kQ) QV Wo (e:=sL.env) (h:=sL.heap) (K:=K) (by simpa[Rec.oo]using hk);refine⟨⟨acc.length,aQ ts e,aQ os h,os,ws,iX⟩::R,eN,hN,k1,⟨⟨fun s v hs=>g6 ts e s v hs,fun s v hs=>g6 os h s v hs⟩,?_⟩,by simp[k3],?_,?_,?_⟩
   ·rw[<- VX];exact k2
   ·simpa using k4
   ·simpa using k5
   ·intro q hq x hx
    rcases List.mem_cons.1 hq with rfl|hq
    ·exact td x hx
    ·exact k6 q hq x hx
  rcases Q2 with⟨rfl,hk⟩|⟨rfl,hk⟩
  ·
   have fin:∀ (ws:List Wr),qK P ops ⟨acc.length,aQ ts e,aQ os h,os,ws,iX⟩->(cP (cp ws) fun mo=>cP (bw ws) fun mk=>cP (bQ ws) fun rW=>
       eW (jP dst made (acc.map Rec.oo) iX ws ⟨os,mo,mk,rW⟩) (bg lw e h fun e h=>bg (pC ws) e h fun e h=>Dj P T made ops.toList l (acc.map Rec.oo ++ [⟨os,mo,mk,rW⟩]) e h K)) ->
     ∃ (R:List Rec) (eN:Env) (hN:aq),K eN hN/\pk R ⟨get e,get h⟩ ⟨get eN,get hN⟩/\R.length=l.length+1/\(∀ k q,(acc++R)[k]?=some q->q.idx=k/\xd P ops fF q)/\(acc++R).Pairwise Pr /\ ∀ q∈R,∀ x∈bw q.ws,x∈made:=by
    intro ws MZ hk;rw[lS,lS,lS]at hk;obtain⟨hc,hk⟩:=bA hk;unfold jP at hc;split at hc;case h_2=>cases hc
    rename_i c1 c2 c3 c4 c5;exact rest ws c4 c5 (yo c3) c1 c2 MZ hk
   by_cases cJ:∃ c,op = .call c
   ·obtain⟨⟨callee,args,tys⟩,rfl⟩:=cJ
    cases callee with
    | builtin bu=>
     obtain⟨ws,hk,iR⟩:=qQ (P:=P) (ty:=ty) (pos:=pos) (after:=after) (guard:=guard) hT hk;exact fin ws (xT (q:=⟨acc.length,aQ ts e,aQ os h,os,ws,iX⟩) ho (fun he hg=>n4 he hg) iR (fun c e=>by cases e)) hk
    | invoke f n=>
     have hk:(match aH (aQ ts e) f,cE (aQ ts e) args.toList with
        | some (.d (.ifc t v)),some l'=>yB P t n fun g=>dh P (aQ ts e) (aQ os h) dst g (.d v::l') (fun ws=>cP (cp ws) fun mo=>cP (bw ws) fun mk=>cP (bQ ws) fun rW=>
       eW (jP dst made (acc.map Rec.oo) iX ws ⟨os,mo,mk,rW⟩) (bg lw e h fun e h=>bg (pC ws) e h fun e h=>Dj P T made ops.toList l (acc.map Rec.oo ++ [⟨os,mo,mk,rW⟩]) e h K))
        | some (.ifc t [v]),some l'=>yB P t n fun g=>dh P (aQ ts e) (aQ os h) dst g (v::l') (fun ws=>cP (cp ws) fun mo=>cP (bw ws) fun mk=>cP (bQ ws) fun rW=>
       eW (jP dst made (acc.map Rec.oo) iX ws ⟨os,mo,mk,rW⟩) (bg lw e h fun e h=>bg (pC ws) e h fun e h=>Dj P T made ops.toList l (acc.map Rec.oo ++ [⟨os,mo,mk,rW⟩]) e h K))
        | _,_=>False):=hk
     split at hk;case h_3=>exact hk.elim
     case h_2=>
      rename_i t v l' hf qD;obtain⟨g,hm,ws,hk,iR⟩:=hk;exact fin ws (CM (q:=⟨acc.length,aQ ts e,aQ os h,os,ws,iX⟩) ho (fun he hg=>n4 he hg) qD hf hm iR) hk
     rename_i t v l' hf qD;obtain⟨g,hm,ws,hk,iR⟩:=hk;exact fin ws (Fe (q:=⟨acc.length,aQ ts e,aQ os h,os,ws,iX⟩) ho (fun he hg=>n4 he hg) qD hf hm iR) hk
    | value f=>
     have hk:(match aH (aQ ts e) f,cE (aQ ts e) args.toList with
        | some (.d (.clo g aL)),some l'=>dh P (aQ ts e) (aQ os h) dst g (l'++inj aL) (fun ws=>cP (cp ws) fun mo=>cP (bw ws) fun mk=>cP (bQ ws) fun rW=>
       eW (jP dst made (acc.map Rec.oo) iX ws ⟨os,mo,mk,rW⟩) (bg lw e h fun e h=>bg (pC ws) e h fun e h=>Dj P T made ops.toList l (acc.map Rec.oo ++ [⟨os,mo,mk,rW⟩]) e h K))
        | some (.clo g aL),some l'=>dh P (aQ ts e) (aQ os h) dst g (l'++aL) (fun ws=>cP (cp ws) fun mo=>cP (bw ws) fun mk=>cP (bQ ws) fun rW=>
       eW (jP dst made (acc.map Rec.oo) iX ws ⟨os,mo,mk,rW⟩) (bg lw e h fun e h=>bg (pC ws) e h fun e h=>Dj P T made ops.toList l (acc.map Rec.oo ++ [⟨os,mo,mk,rW⟩]) e h K))
        | _,_=>False):=hk
     split at hk
     ·rename_i g aL l' hf qD
      obtain⟨ws,hk,iR⟩:=hk;refine fin ws (vG (q:=⟨acc.length,aQ ts e,aQ os h,os,ws,iX⟩) ho (fun he hg=>n4 he hg) qD (fun {σ cx r m L F st a w} he hg=>?_) iR) hk;have eL:Good cx r m L F ⟨aQ ts e,st.heap,st.s⟩ a w:=hg.sub he (fun _ _ h=>h);obtain⟨lc,cF,kq⟩:=eL.aH hf;exact⟨lc,cF,aj.inj.2 kq⟩
     ·rename_i g aL l' hf qD
      obtain⟨ws,hk,iR⟩:=hk;refine fin ws (vG (q:=⟨acc.length,aQ ts e,aQ os h,os,ws,iX⟩) ho (fun he hg=>n4 he hg) qD (fun {σ cx r m L F st a w} he hg=>?_) iR) hk;have eL:Good cx r m L F ⟨aQ ts e,st.heap,st.s⟩ a w:=hg.sub he (fun _ _ h=>h);obtain⟨lc,cF,kq⟩:=eL.aH hf;exact⟨lc,cF,kq⟩
     ·exact hk.elim
   ·have hk:fK T (aQ ts e) (aQ os h) dst op (fun ws=>cP (cp ws) fun mo=>cP (bw ws) fun mk=>cP (bQ ws) fun rW=>
       eW (jP dst made (acc.map Rec.oo) iX ws ⟨os,mo,mk,rW⟩) (bg lw e h fun e h=>bg (pC ws) e h fun e h=>Dj P T made ops.toList l (acc.map Rec.oo ++ [⟨os,mo,mk,rW⟩]) e h K)):=by
     cases op<;>first|exact hk|exact absurd ⟨_,rfl⟩ cJ
    have wD:∀ c,op ≠ .defer c:=fun c hc=>by subst hc;exact hk
    obtain⟨ws,hk,iR⟩:=zz (P:=P) (ty:=ty) (pos:=pos) (after:=after) (guard:=guard) hT hk;exact fin ws (xT (q:=⟨acc.length,aQ ts e,aQ os h,os,ws,iX⟩) ho (fun he hg=>n4 he hg) iR wD) hk
  ·obtain⟨hc,hk⟩:=bA hk
   have h0:cp (aO dst (.d (.tup []))) = []/\bw (aO dst (.d (.tup []))) = []/\bQ (aO dst (.d (.tup []))) = []/\dD (aO dst (.d (.tup [])))=true/\mZ dst (aO dst (.d (.tup [])))=true/\pC (aO dst (.d (.tup [])))=aO dst (.d (.tup [])):=by
    cases dst with
    | none=>simp[aO,cp,bw,bQ,dD,mZ,pC]
    | some d=>simp[aO,cp,bw,bQ,dD,mZ,pC,bC,iO]
   obtain⟨z1,z2,z3,z4,z5,z6⟩:=h0;refine rest (aO dst (.d (.tup []))) z4 z5 (by rw[z2];intro x hx;cases hx) (by rw[z1,z2,z3];exact hc) (by
    rw[z2];have:∀ acc:List OO,qs [] acc=true:=by
     intro acc
     induction acc with
     | nil=>rfl
     | cons p r ih=>simp[qs,iO,ih]
    exact this _) (CN (q:=⟨acc.length,aQ ts e,aQ os h,os,aO dst (.d (.tup [])),iX⟩) ho rfl (fun he hg=>n4 he hg)) ?_
   rw[z1,z2,z3,z6];exact hk
theorem EA(hm:P.follows .mixedOrders=true)(hT:bl P T){ops:Array Oper}{rt:RT}(pz:kE ops.toList rt=true):FY P T ops rt:=by
 intro σ cx tN r m L F e h s a w K hg hd hk id;have Hj:=pz;simp only[kE,Bool.and_eq_true]at Hj;obtain⟨⟨⟨⟨hlen,lU⟩,nX⟩,mG⟩,td⟩:=Hj;have hlen:=Nat.eq_of_beq_eq_true hlen;obtain⟨e1,h1,L1,hk,fP,hu⟩:=yO rt.made (fun d Q8=>by
  have:=List.all_eq_true.1 td d Q8;exact Nat.le_of_ble_eq_true this) hg hk (fun _=>False) (fun _ h=>h.elim)
 obtain⟨R,eN,hN,k1,k2,k3,k4,k5,k6⟩:=Ix hT mG (ops.toList.zip rt.fF) [] (fun j p hp=>by
  have:=List.getElem?_zip_eq_some.1 hp;simpa using this) (fun k q hq=>by simp at hq) List.Pairwise.nil hk
 simp only[List.nil_append]at k4 k5;have Xr:R.length=ops.size:=by rw[k3,List.length_zip,hlen];simp[<- hlen]
 refine wpIn_region_any hm ?_;have Kh:Tr F w F { w with drawn:=w.drawn+1 }:=Tr.drew _;refine FI (cx:=cx) tN (r:=r) (m:=m) (s:=s) (n0:=a.tmps.size) (F0:=F) (w0:=w) (f':=⟨get eN,get hN⟩) pz hd (fun a' w' L' F' st hf hs eL tr hn=>?_) ops.size (l:=R) (st:=⟨e1,h1,s⟩)
  ⟨k5,fun q hq=>?_,fun q hq=>?_,fun q hq=>?_⟩ (fP.same (w':={ w with drawn:=w.drawn+1 }) rfl rfl rfl rfl) rfl Kh rfl (fun q hq x hx=>hu x (.inl (k6 q hq x hx))) k2 (by omega) ⟨fun i=>?_,by simp,fun j o hj=>?_⟩
 ·refine⟨eN,hN,s,L',F',rfl,⟨k1,rfl⟩,?_,tr,hn⟩
  have he:get st.env=get eN:=congrArg Fs.env hf;have hh:get st.heap=get hN:=congrArg Fs.heap hf;have:=eL.sub (e:=eN) (h:=hN) (fun x v hx=>by rw[he];exact hx) (fun x v hx=>by rw[hh];exact hx);rw[hs]at this;exact this
 ·obtain⟨k,jc,wC⟩:=List.mem_iff_getElem.1 hq
  exact(k4 k q (by rw[List.getElem?_eq_getElem jc,wC])).2.snd
 ·obtain⟨k,jc,wC⟩:=List.mem_iff_getElem.1 hq
  exact(k4 k q (by rw[List.getElem?_eq_getElem jc,wC])).2.news
 ·obtain⟨k,jc,wC⟩:=List.mem_iff_getElem.1 hq
  obtain⟨o,t,h1,h2,h3,_⟩:=(k4 k q (by rw[List.getElem?_eq_getElem jc,wC])).2.op;exact⟨t,h2,h3⟩
 ·rw[Array.getD_eq_getD_getElem?,Array.getElem?_replicate]
  constructor
  ·rintro ⟨q,hq,rfl⟩
   obtain⟨k,jc,wC⟩:=List.mem_iff_getElem.1 hq;have:=(k4 k q (by rw[List.getElem?_eq_getElem jc,wC])).1;rw[if_pos (by omega)];rfl
  ·intro hi
   by_cases IA:i<ops.size
   ·exact⟨R[i],List.getElem_mem ..,(k4 i R[i] (List.getElem?_eq_getElem (by omega))).1⟩
   ·rw[if_neg IA]at hi;simp at hi
 ·rw[Array.getD_eq_getD_getElem?,Array.getElem?_replicate]at hj
  split at hj<;>cases hj
def gE(ft:FT):Code->Bool
 | .region id ops draw=>match draw with
  | false=>true
  | true=>match get ft.tb id with
   | none=>true
   | some rt=>kE ops.toList rt
 | .seq a b=>gE ft a&&gE ft b
 | .cond _ a b=>gE ft a&&gE ft b
 | .block _ a=>gE ft a
 | .loop a=>gE ft a
 | .scope a=>gE ft a
 | .rangeFunc _ _ a b=>gE ft a&&gE ft b
 | _=>true
theorem ai(hm:P.follows .mixedOrders=true)(hT:bl P T){ft:FT}:∀ {c:Code},gE ft c=true->cy P T ft c
 | .region id ops draw,h=>by
  intro hd rt Wv;subst hd;simp only[gE,Wv]at h;exact EA hm hT h
 | .seq a b,h=>by
  simp only[gE,Bool.and_eq_true]at h;exact⟨ai hm hT h.1,ai hm hT h.2⟩
 | .cond _ a b,h=>by
  simp only[gE,Bool.and_eq_true]at h;exact⟨ai hm hT h.1,ai hm hT h.2⟩
 | .block _ a,h=>ai (c:=a) hm hT h
 | .loop a,h=>ai (c:=a) hm hT h
 | .scope a,h=>ai (c:=a) hm hT h
 | .rangeFunc _ _ a b,h=>by
  simp only[gE,Bool.and_eq_true]at h;exact⟨ai hm hT h.1,ai hm hT h.2⟩
 | .skip,_=>trivial
 | .exit _,_=>trivial
 | .label _,_=>trivial
 | .goto _,_=>trivial
 | .ret,_=>trivial
 | .refuse _,_=>trivial
end
def qw(tmps:Array Value)(r:ResultVar):Sem Value:=
 match r with
 | .tmp t=>pure (tmps.getD t undef)
 | .cell b t=>do loadVar t (<- asAddr (tmps.getD b undef))
theorem CX(fn:Func)(tmps:Array Value):results fn tmps=(do
  let vs <- fn.results.mapM (qw tmps)
  pure (if h:vs.size=1 then vs[0] else .tuple vs)):=rfl
section
variable {P : Program} {T : dV}
theorem CW(hT:bl P T){e:Env}{h:aq}:∀ {rs:List ResultVar} {K:List V->Prop},H0 T e h rs K ->
  ∃ l,K l /\ ∀ {σ:Type} {cx:Cx σ} {r:Option Nat} {m:List Nat} {L:Loc} {F:Nat->Nat} {s:σ} {a:Act} {w:World},Good cx r m L F ⟨e,h,s⟩ a w ->
   ∃ a9:List Value,(rs.mapM (qw a.tmps)).run P w = .ok a9 w/\aj cx.yv L F w l a9
 | [],K,hk=>⟨[],hk,fun _=>⟨[],by simp,rfl⟩⟩
 | .tmp t::rs,K,hk=>by
  have hk:(match get e t with
   | some v=>H0 T e h rs fun l=>K (v::l)
   | none=>False):=hk
  split at hk
  ·rename_i v hv
   obtain⟨l,hl,bt⟩:=CW hT hk;refine⟨v::l,hl,fun {σ cx r m L F s a w} hg=>?_⟩;obtain⟨a9,hr,Hh⟩:=bt hg;obtain⟨x,hx,Ju⟩:=hg.env t v hv;refine⟨x::a9,?_,x,a9,rfl,Ju,Hh⟩;simp only[List.mapM_cons,Sem.run_bind,qw,Sem.run_pure,Result.andThen_ok,hr];simp[hx]
  ·exact hk.elim
 | .cell b t::rs,K,hk=>by
  have hk:A9 T e h t (.tmp b) fun v=>H0 T e h rs fun l=>K (v::l):=hk;obtain⟨v,hk,Rn⟩:=DZ (P:=P) hT hk;obtain⟨l,hl,bt⟩:=CW hT hk;refine⟨v::l,hl,fun {σ cx r m L F s a w} hg=>?_⟩;obtain⟨a9,hr,Hh⟩:=bt hg;obtain⟨bb,off,y,hu,hy,AW⟩:=Rn cx L F s (a.eval (.tmp b)) w h (fun _ _ h=>h) hg.heap (fun v hv=>hg.aH hv);have NK:a.tmps.getD b undef = .pointer (some ⟨bb,off,none⟩):=hu;have Wl:(qw a.tmps (.cell b t)).run P w = .ok y w:=by simp[qw,NK,asAddr,hy]
  refine⟨y::a9,?_,y,a9,rfl,AW,Hh⟩;simp only[List.mapM_cons,Sem.run_bind,Wl,Result.andThen_ok,hr,Sem.run_pure]
theorem BC{fn:Func}{tmps:Array Value}{w:World}{a9:List Value}(h:(fn.results.toList.mapM (qw tmps)).run P w = .ok a9 w):(results fn tmps).run P w = .ok (D8 a9) w:=by
 have MF:(fn.results.mapM (qw tmps)).run P w = .ok a9.toArray w:=by
  rw[Array.mapM_eq_mapM_toList];simp only[Sem.run_map,h,Result.andThen_ok]
 rw[CX];simp only[Sem.run_bind,MF,Result.andThen_ok,Sem.run_pure]
 congr 1
 match a9 with
 | []=>rfl
 | [x]=>rfl
 | x::y::r=>simp[D8]
theorem bp.Nt{σ:Type}{cx:Cx σ}{L:Loc}{F:Nat->Nat}{h:aq}{s:σ}{w:World}(hh:bp cx L F h s w){b:Nat}(hb:w.heap[b]?=some (.deferred (some [])))(hC:¬ cx.C s b) :
  bp cx L F h s (w.putObj b (.deferred none))/\Tr F w F (w.putObj b (.deferred none)):=by
 have hk:∀ x,x≠b->(w.putObj b (.deferred none)).heap[x]?=w.heap[x]?:=fun x hx=>by
  simp[World.putObj,Array.getElem?_setIfInBounds_ne (Ne.symm hx)]
 have QY:(w.putObj b (.deferred none)).heap[b]?=some (.deferred none):=by
  simp[World.putObj,Array.getElem?_setIfInBounds,(Array.getElem?_eq_some_iff.1 hb).1]
 have cY:(w.putObj b (.deferred none)).heap.size=w.heap.size:=by simp[World.putObj]
 have tr:Tr F w F (w.putObj b (.deferred none)):=by
  refine⟨rfl,rfl,rfl,by rw[cY];exact Nat.le_refl _,fun _=>Nat.le_refl _,fun x o hx=>?_,fun x en c hx hm=>?_⟩
  ·by_cases he:x=b
   ·subst he;simp[World.cell?,hb,QY]
   ·exact j5 (hk x he)
  ·by_cases he:x=b
   ·subst he;rw[hb]at hm;cases hm
   ·rw[hk x he];exact hm
 have ef:∀ id o,get h id=some o->aJ L id o->L.ρ id≠b:=by
  intro id o ho j8 e;have:=hh.obj id o ho
  cases o with
  | box c=>obtain⟨c',T,hc,_⟩:=this;rw[e,hb]at hc;cases hc
  | arr sz es=>
   obtain⟨_,_,h⟩:=this;rcases h with⟨_,hk⟩|⟨c,T,hc,_⟩
   ·exact j8 hk
   ·rw[e,hb]at hc;cases hc
  | map b0=>obtain⟨en,c,hc,_⟩:=this;rw[e,hb]at hc;cases hc
  | iter s n=>have hc:w.heap[L.ρ id]?=_:=this;rw[e,hb]at hc;cases hc
  | buf t s=>obtain⟨_,hc,_⟩:=this;rw[e,hb]at hc;cases hc
  | tb t l=>obtain⟨_,hc,_⟩:=this;rw[e,hb]at hc;cases hc
  | fz l=>exact j8
  | mit v n l u=>obtain⟨_,_,_,hc,_⟩:=this;rw[e,hb]at hc;cases hc
 refine⟨⟨cx.eJ hh.hg tr (fun x hx=>hh.fresh x (by rw[<- cY];exact hx)) fun x hx=>⟨hk x (by rintro rfl;exact hC hx),rfl⟩,fun x hx=>by rw[cY];exact hh.j6 x hx,fun x hx=>hh.fresh x (by rw[<- cY];exact hx),fun id o ho=>?_,hh.own,hh.inj⟩,tr⟩;exact bF.mono tr id o (fun _ _=>⟨rfl,rfl⟩) ⟨rfl,rfl⟩ (fun j8=>hk _ (ef id o ho j8)) (hh.obj id o ho)
theorem rq{σ:Type}{cx:Cx σ}{L:Loc}{F0:Nat->Nat}{w0:World}{h:aq}{s:σ}{fn:Func}{tmps:Array Value}{R:Ending->World->Prop}:∀ (m:List Nat) {F:Nat->Nat} {w:World},bp cx L F h s w->Tr F0 w0 F w ->
  (∀ b∈m,w.heap[b]?=some (.deferred (some []))/\¬ cx.C s b)->m.Nodup->(∀ w',bp cx L F h s w'->Tr F w F w' -> ∃ v,(results fn tmps).run P w' = .ok v w'/\R (.returned v) w') ->
  LeavesInM Fence.wide 0 P fn tmps R (m.map mark) .returning w
 | [],F,w,hh,tr,hm,hn,hR=>by
  simp only[List.map_nil,LeavesInM,LeavesIn];exact hR w hh (Tr.refl F w)
 | b::m,F,w,hh,tr,hm,hn,hR=>by
  obtain⟨hb,hC⟩:=hm b (List.mem_cons_self ..);obtain⟨tM,nA⟩:=hh.Nt hb hC;simp only[List.map_cons,LeavesInM];refine⟨by simp,.inl ⟨b,w.putObj b (.deferred none),rfl,?_,?_⟩⟩
  ·simp[Instr.takeDeferred,Sem.run_bind,getObj,setObj,Sem.run,hb,Result.andThen,World.putObj]
  ·have wD:=List.nodup_cons.1 hn
   refine rq m tM (Tr.trans tr nA) (fun x hx=>?_) wD.2 fun w' h1 h2=>hR w' h1 (Tr.trans nA h2);have JA:x≠b:=by rintro rfl;exact wD.1 hx
   refine⟨?_,(hm x (List.mem_cons_of_mem _ hx)).2⟩;rw[<- (hm x (List.mem_cons_of_mem _ hx)).1];simp[World.putObj,Array.getElem?_setIfInBounds_ne (Ne.symm JA)]
def qC(ft:FT)(fn:Func)(n:Nat):Bool:=
 match fn.body with
 | some c => codeOk fn.ntmps c && gE ft c && Nat.ble fn.ntmps 1000000 && fn.name != "runtime.NumGoroutine" && Nat.ble n fn.ntmps
 | none=>false
theorem sg:∀ {args:List V} {i s:Nat} {v:V},get (ia i args) s=some v -> ∃ k,s=i+k/\args[k]?=some v
 | [],i,s,v,h=>by cases h
 | a::r,i,s,v,h=>by
  simp only[ia,get]at h;split at h
  ·rename_i he
   have:=Nat.eq_of_beq_eq_true he;subst this;cases h;exact⟨0,rfl,rfl⟩
  ·obtain⟨k,rfl,hk⟩:=sg h
   exact⟨k+1,by omega,by simpa using hk⟩
theorem cX(hm:P.follows .mixedOrders=true)(hT:bl P T){σ:Type}{Y:Hd σ}{f:FuncId}{fn:Func}{c:Code}(hf:P.funcs[f]?=some fn)(hb:fn.body=some c){ft:FT}{args:List V}(eg:qC ft fn args.length=true)
  {h:aq} {s:σ} {Q:V->aq->σ->Prop} (hw:Di P T ft Y.np c ⟨ia 0 args,h,s⟩ (Sk T fn.results.toList Q)):FM P Y f args h s Q:=by
 unfold qC at eg;rw[hb]at eg;simp only[Bool.and_eq_true,bne_iff_ne,ne_eq]at eg;obtain⟨⟨⟨⟨Q6,Mn⟩,Wh⟩,Rr⟩,hlen⟩:=eg;have Wh:=Nat.le_of_ble_eq_true Wh;have hlen:=Nat.le_of_ble_eq_true hlen;refine⟨fun vs w=>by simp[callFunc,hf,Rr,hb,Go.mark],fun cx hY L F a9 w hh hr=>?_⟩;have DT:a9.size=args.length:=by simpa using hr.length
 have cY:(a9++Array.replicate (fn.ntmps-a9.size) undef).size=fn.ntmps:=by simp;omega
 refine callsIn_of_wp_marks hf hb trivial ?_;have hg:Good { cx with pρ:=L.ρ,pκ:=L.κ,base:=[] } none [] L F ⟨ia 0 args,h,s⟩ { tmps:=a9++Array.replicate (fn.ntmps-a9.size) undef,defers:=[] } w:=by
  refine⟨⟨hh.hg,hh.j6,hh.fresh,hh.obj,hh.own,hh.inj⟩,fun t v ht=>?_,rfl,(fun b hb=>by cases hb),List.nodup_nil,(fun l hl=>by cases hl),fun _ _=>⟨rfl,rfl⟩,by rw[cY];exact Wh⟩;obtain⟨k,hk,hv⟩:=sg ht;rw[Nat.zero_add]at hk;subst hk;obtain⟨x,hx,Ju⟩:=hr.get t hv;refine⟨x,?_,Ju⟩;have dI:t<a9.size:=by
   have:=(List.getElem?_eq_some_iff.1 hx).1;simpa using this
  rw[Array.getElem?_append_left dI];simpa using hx
 have YP:dp P Y.np { cx with pρ:=L.ρ,pκ:=L.κ,base:=[] }:=by
  refine⟨?_,hY.laid⟩;intro l hl args h s Q hy L' F' a9 w tM hr;obtain⟨fn,tmps,zU,body,h1,h2⟩:=hY.yld l hl args h s Q hy L' F' a9 w ⟨tM.hg,tM.j6,tM.fresh,tM.obj,tM.own,tM.inj⟩ hr;refine⟨fn,tmps,zU,body,h1,h2.mono ?_⟩;rintro e w' ⟨x,he,v,h',s',Lk,Iy,hq,lD,rest⟩;exact⟨x,he,v,h',s',Lk,Iy,hq,⟨lD.hg,lD.j6,lD.fresh,lD.obj,lD.own,lD.inj⟩,rest⟩
 have WL:=cL hT c (ai hm hT Mn) ⟨ia 0 args,h,s⟩ _ hw _ YP none [] L F _ w hg (by rw[cY];exact Q6);have WL:c.wpIn Fence.wide 0 P _ { tmps:=a9++Array.replicate (fn.ntmps-a9.size) undef,defers:=[] } w:=WL;refine wpIn_mono WL fun ex a' w' hq=>?_;rcases hq with⟨e',dm,m',L',F',rfl,hk,eL,tr,hs⟩|⟨v,e',h',s',m',L',F',_,hy,_⟩
 case inr=>exact hy.elim
 have fin:Sk T fn.results.toList Q .normal dm->LeavesInM Fence.wide 0 P fn a'.tmps (fun e w'=>∃ x,e = .returned x /\ ∃ v h' s' L' F',Q v h' s'/\bp cx L' F' h' s' w'/\aT cx.yv L' F' w' v x/\Tr F w F' w'/\uC L L') a'.defers .returning w':=by
  intro hk;rw[eL.wA,List.append_nil];refine rq m' eL.heap tr eL.pR eL.wS fun Em lD Sd=>?_;obtain⟨e1,h1,s1⟩:=dm;have hk:H0 T e1 h1 fn.results.toList fun l=>pj l h1 s1 Q:=hk;obtain⟨l,⟨Wu⟩,bt⟩:=CW (P:=P) hT hk;have Mv:Good { cx with pρ:=L.ρ,pκ:=L.κ,base:=[] } none [] L' F' ⟨e1,h1,s1⟩ { a' with defers:=[] } Em:=by
   refine⟨lD,fun t v ht=>?_,rfl,(fun b hb=>by cases hb),List.nodup_nil,(fun l hl=>by cases hl),eL.mT,eL.wm⟩;obtain⟨x,hx,Ju⟩:=eL.env t v ht;exact⟨x,hx,aT.mono Sd v x (fun _ _=>⟨rfl,rfl⟩) Ju⟩
  obtain⟨Se,MS,Hh⟩:=bt Mv;obtain⟨v,h',L2,F2,hq,Za,MP,FV,WV⟩:=Wu cx L' F' Se Em ⟨lD.hg,lD.j6,lD.fresh,lD.obj,lD.own,lD.inj⟩ Hh;refine⟨_,BC MS,_,rfl,v,h',s1,L2,F2,hq,Za,MP,Tr.trans tr (Tr.trans Sd FV),fun i hi=>?_⟩;obtain⟨p1,p2⟩:=WV i hi;obtain⟨p3,p4⟩:=eL.mT i hi;exact⟨p1.trans p3,p2.trans p4⟩
 cases e' with
 | normal=>exact fin hk
 | ret=>exact fin hk
 | exit i=>exact hk.elim
end
def iy(R:Nat->Nat)(v:V):V:=
 match v with
 | .ptr i off=>.ptr (R i) off
 | .ep i sz k off=>.ep (R i) sz k off
 | .sl i sz off n=>.sl (R i) sz off n
 | .mp i=>.mp (R i)
 | .it i=>.it (R i)
 | v=>v
abbrev mg(R:Nat->Nat)(v:V):V:=aE (iy R) v
abbrev kU(R:Nat->Nat)(v:List V):List V:=cb (iy R) v
abbrev iD(R:Nat->Nat)(o:Obj):Obj:=Obj.aE (iy R) o
section
variable {yv : Option Nat} {L L' : Loc} {F : Nat -> Nat} {w : World} {R : Nat -> Nat}
mutual
theorem aT.mg:∀ (v:V) (x:Value),(∀ i,gm v i->L'.ρ (R i)=L.ρ i/\L'.κ (R i)=L.κ i)->(aT yv L' F w (aE (iy R) v) x↔aT yv L F w v x)
 | .d v,_,_=>Iff.rfl
 | .agg cs,x,hn=>by
  constructor
  ·rintro ⟨l,rfl,hl⟩;exact⟨l,rfl,(aj.mg cs _ hn).1 hl⟩
  ·rintro ⟨l,rfl,hl⟩;exact⟨l,rfl,(aj.mg cs _ hn).2 hl⟩
 | .tup cs,x,hn=>by
  constructor
  ·rintro ⟨l,rfl,hl⟩;exact⟨l,rfl,(aj.mg cs _ hn).1 hl⟩
  ·rintro ⟨l,rfl,hl⟩;exact⟨l,rfl,(aj.mg cs _ hn).2 hl⟩
 | .ptr id off,x,hn=>by
  show x = .pointer (some ⟨L'.ρ (R id),off,none⟩)↔x = .pointer (some ⟨L.ρ id,off,none⟩);rw[(hn id rfl).1]
 | .ep id sz k off,x,hn=>by
  show x = .pointer (some ⟨L'.ρ (R id),k*sz+off,none⟩)↔x = .pointer (some ⟨L.ρ id,k*sz+off,none⟩);rw[(hn id rfl).1]
 | .sl id sz off len,x,hn=>by
  show(∃ a cap,x = .slice a len cap/\len<=cap/\0<sz/\((len=0/\cap=0)\/(a=some ⟨L'.ρ (R id),off*sz,none⟩/\(off+cap)*sz<=L'.κ (R id)))) ↔
   (∃ a cap,x = .slice a len cap/\len<=cap/\0<sz/\((len=0/\cap=0)\/(a=some ⟨L.ρ id,off*sz,none⟩/\(off+cap)*sz<=L.κ id)))
  rw[(hn id rfl).1,(hn id rfl).2]
 | .mp id,x,hn=>by
  show x = .map (some (L'.ρ (R id)))↔x = .map (some (L.ρ id));rw[(hn id rfl).1]
 | .it id,x,hn=>by
  show x = .pointer (some ⟨L'.ρ (R id),0,none⟩)↔x = .pointer (some ⟨L.ρ id,0,none⟩);rw[(hn id rfl).1]
 | .clo f cs,x,hn=>by
  constructor
  ·rintro ⟨l,rfl,hl⟩;exact⟨l,rfl,(aj.mg cs _ hn).1 hl⟩
  ·rintro ⟨l,rfl,hl⟩;exact⟨l,rfl,(aj.mg cs _ hn).2 hl⟩
 | .ifc f cs,x,hn=>by
  constructor
  ·rintro ⟨l,rfl,hl⟩;exact⟨l,rfl,(aj.mg cs _ hn).1 hl⟩
  ·rintro ⟨l,rfl,hl⟩;exact⟨l,rfl,(aj.mg cs _ hn).2 hl⟩
 | .yld,_,_=>Iff.rfl
 | .unk,_,_=>Iff.rfl
theorem aj.mg:∀ (vs:List V) (l:List Value),(∀ i,bz vs i->L'.ρ (R i)=L.ρ i/\L'.κ (R i)=L.κ i)->(aj yv L' F w (cb (iy R) vs) l↔aj yv L F w vs l)
 | [],_,_=>Iff.rfl
 | v::r,l,hn=>by
  simp only[cb,aj];constructor
  ·rintro ⟨x,l',rfl,hv,hl⟩;exact⟨x,l',rfl,(aT.mg v x fun i hi=>hn i (.inl hi)).1 hv,(aj.mg r l' fun i hi=>hn i (.inr hi)).1 hl⟩
  ·rintro ⟨x,l',rfl,hv,hl⟩;exact⟨x,l',rfl,(aT.mg v x fun i hi=>hn i (.inl hi)).2 hv,(aj.mg r l' fun i hi=>hn i (.inr hi)).2 hl⟩
end
theorem tR{f:V->V}{sz:Nat}{l:List (List V)}:cK sz (cS f l)↔cK sz l:=by
 induction l with
 | nil=>exact Iff.rfl
 | cons e r ih=>
  simp only[cS,cK,List.forall_mem_cons,jd];exact and_congr Iff.rfl ih
theorem Ba{f:V->V}{l:List (List V)}:cS f l = []↔l = []:=by cases l<;>simp[cS]
theorem bF.mg(id:Nat)(o:Obj)(hn:∀ i,kA o i->L'.ρ (R i)=L.ρ i/\L'.κ (R i)=L.κ i){mI:Nat}(dR:L'.ρ mI=L.ρ id/\L'.κ mI=L.κ id) :
  bF yv L' F w mI (iD R o)↔bF yv L F w id o:=by
 cases o with
 | box c=>
  cases c with
  | dd l=>
   simp only[bF,Obj.aE,dR.1,Cells.bo,aj.inj]
  | vv l=>
   simp only[bF,Obj.aE,dR.1,Cells.bo];refine exists_congr fun c=>exists_congr fun T=>and_congr Iff.rfl (aj.mg l _ hn)
 | arr sz es=>
  cases es with
  | dd l=>
   simp only[bF,Obj.aE,dR.1,dR.2,a7.bo,eb,aj.inj]
  | vv l=>
   simp only[bF,Obj.aE,dR.1,dR.2,a7.bo];rw[tR,Ba,fR,fg];refine and_congr Iff.rfl (and_congr Iff.rfl (or_congr Iff.rfl ?_));refine exists_congr fun c=>exists_congr fun T=>and_congr Iff.rfl (and_congr Iff.rfl (and_congr Iff.rfl (aj.mg l.flatten _ hn)))
 | map b0=>simp only[bF,Obj.aE,dR.1]
 | iter s n=>simp only[bF,Obj.aE,dR.1]
 | buf t s=>simp only[bF,Obj.aE,dR.1,dR.2]
 | tb t l=>
  simp only[bF,Obj.aE,dR.1];refine exists_congr fun c=>and_congr Iff.rfl (aj.mg l _ hn)
 | fz l=>
  simp only[bF,Obj.aE,dR.1];refine exists_congr fun c=>and_congr Iff.rfl (aj.mg l _ hn)
 | mit v n l u=>
  simp only[bF,Obj.aE,dR.1];refine exists_congr fun r=>exists_congr fun seen=>and_congr (aT.mg v _ hn) Iff.rfl
theorem bX(id:Nat)(o:Obj){mI:Nat}(hk:L'.κ mI=L.κ id):aJ L' mI (iD R o)↔aJ L id o:=mh hk o
end
def ck(tb:List Nat)(d:Nat)(i:Nat):Nat:=
 match Nat.blt i 1000000 with
 | true=>i
 | false=>match Nat.blt i 2000000 with
  | true=>match tb[i-1000000]? with
   | some k=>k
   | none=>0
  | false=>100000+64*d+(i-2000000)
def cC:aq->List Nat
 | []=>[]
 | (i,_)::r=>match Nat.blt i 2000000 with
  | true=>cC r
  | false=>i::cC r
def kx(R:Nat->Nat)(h':aq):Nat->List Nat->List Wr
 | _,[]=>[]
 | i,k::r=>(match get h' i with
  | some o=>.obj k (iD R o)
  | none=>.del k)::kx R h' (i+1) r
def oh(R:Nat->Nat)(h':aq):List Nat->List Wr
 | []=>[]
 | i::r=>(match get h' i with
  | some o=>.new (R i) (iD R o)
  | none=>.new (R i) (.box (.dd [])))::oh R h' r
def cO(tb:List Nat)(d:Option Nat)(v:V)(h':aq):List Wr:=
 let R:=ck tb (d.getD 0)
 oh R h' (cC h')++(kx R h' 1000000 tb++aO d (mg R v))
def fS:List Nat->Bool
 | []=>true
 | k::r=>!tQ r k&&fS r
def hP(n:Nat)(nk:List Nat):List Nat->Bool
 | []=>true
 | i::r=>(Nat.ble 1000000 i&&Nat.blt i (1000000+n)||tQ nk i)&&hP n nk r
def bk:aq->List Nat
 | []=>[]
 | (i,o)::r=>i::(eE o++bk r)
def gH(R:Nat->Nat)(h:aq):Nat->List Nat->aq->Prop
 | _,[],h0=>h0 = []
 | i,k::r,h0=>∃ o h1,h0=(i,o)::h1/\get h k=some (iD R o)/\gH R h (i+1) r h1
def fA(tb:List Nat)(d:Option Nat)(v:V)(h':aq):Bool:=
 fS tb&&Nat.ble (cC h').length 64&&fS (cC h')&&iO tb ((cC h').map (ck tb (d.getD 0)))&&hP tb.length (cC h') (bk h')&&hP tb.length (cC h') (bC v) &&
  (cC h').all (fun i=>Nat.blt i 2000064)&&Nat.ble (d.getD 0) 10000&&Nat.ble tb.length 1000&&dD (cO tb d v h')
def sU(P:Program)(f:FuncId)(args:List V)(h:aq)(Q:V->aq->Prop):Prop:=
 ∀ {σ:Type} (Y:Hd σ) (s:σ),FM P Y f args h s fun v h' s'=>Q v h'/\s'=s
theorem gT:∀ {l:List Nat},fS l=true->l.Nodup
 | [],_=>List.nodup_nil
 | k::r,h=>by
  simp only[fS,Bool.and_eq_true,Bool.not_eq_true']at h;refine List.nodup_cons.2 ⟨fun hm=>?_,gT h.2⟩;rw[eZ.2 hm]at h;cases h.1
theorem p8{n:Nat}{nk:List Nat}:∀ {l:List Nat},hP n nk l=true -> ∀ i∈l,(1000000<=i/\i<1000000+n)\/i∈nk
 | [],_,i,hi=>by cases hi
 | k::r,h,i,hi=>by
  simp only[hP,Bool.and_eq_true,Bool.or_eq_true]at h;rcases List.mem_cons.1 hi with rfl|hi
  ·exact h.1.imp (fun h=>⟨Nat.le_of_ble_eq_true h.1,Nat.le_of_ble_eq_true h.2⟩) eZ.1
  ·exact p8 h.2 i hi
theorem aU:∀ {h:aq} {i:Nat} {o:Obj},get h i=some o->i∈bk h /\ ∀ x∈eE o,x∈bk h
 | [],i,o,h=>by cases h
 | (k,p)::r,i,o,h=>by
  simp only[get]at h;split at h
  ·rename_i he
   have:=Nat.eq_of_beq_eq_true he;subst this;cases h;exact⟨by simp[bk],fun x hx=>by simp[bk,hx]⟩
  ·obtain⟨h1,h2⟩:=aU h
   exact⟨by simp[bk,h1],fun x hx=>by simp[bk,h2 x hx]⟩
theorem mP:∀ {h:aq} {i:Nat},i∈cC h->2000000<=i
 | [],i,h=>by cases h
 | (k,p)::r,i,h=>by
  simp only[cC]at h;split at h
  ·exact mP h
  ·rename_i hk
   rcases List.mem_cons.1 h with rfl|h
   ·rcases Nat.lt_or_ge i 2000000 with dI|G0
    ·rw[show Nat.blt i 2000000=true from Nat.ble_eq_true_of_le dI]at hk;cases hk
    ·exact G0
   ·exact mP h
theorem qc{tb:List Nat}{d k id:Nat}(hk:tb[k]?=some id)(hl:tb.length<=1000):ck tb d (1000000+k)=id:=by
 have dI:k<tb.length:=(List.getElem?_eq_some_iff.1 hk).1;unfold ck;have h1:Nat.blt (1000000+k) 1000000=false:=by
  rw[Bool.eq_false_iff];intro h;have:=Nat.le_of_ble_eq_true h;omega
 have h2:Nat.blt (1000000+k) 2000000=true:=Nat.ble_eq_true_of_le (by omega);rw[h1,h2];simp only[show 1000000+k-1000000=k by omega,hk]
theorem r8{tb:List Nat}{d i:Nat}(hi:2000000<=i):ck tb d i=100000+64*d+(i-2000000):=by
 unfold ck;have h1:Nat.blt i 1000000=false:=by
  rw[Bool.eq_false_iff];intro h;have:=Nat.le_of_ble_eq_true h;omega
 have h2:Nat.blt i 2000000=false:=by
  rw[Bool.eq_false_iff];intro h;have:=Nat.le_of_ble_eq_true h;omega
 rw[h1,h2]
theorem tk{R:Nat->Nat}{h:aq}:∀ {tb:List Nat} {b:Nat} {h0:aq},gH R h b tb h0 -> ∀ i o,get h0 i=some o -> ∃ k id,i=b+k/\tb[k]?=some id/\get h id=some (iD R o)
 | [],b,h0,hl,i,o,hi=>by
  have:h0 = []:=hl;subst this;cases hi
 | id::r,b,h0,hl,i,o,hi=>by
  obtain⟨o',h1,rfl,hg,hl⟩:=hl;simp only[get]at hi;split at hi
  ·rename_i he
   have:=Nat.eq_of_beq_eq_true he;subst this;cases hi;exact⟨0,id,rfl,by simp,hg⟩
  ·obtain⟨k,mI,rfl,hk,eL⟩:=tk hl i o hi
   exact⟨k+1,mI,by omega,by simpa using hk,eL⟩
def qe{σ:Type}(st:St σ):List Nat->St σ
 | []=>st
 | i::r=>qe ⟨ct (aE (aZ i)) st.env,ct (Obj.aE (aZ i)) (cut st.heap i),st.s⟩ r
def xM:List Nat->V->V
 | [],v=>v
 | i::r,v=>xM r (aE (aZ i) v)
def n6:List Nat->Obj->Obj
 | [],v=>v
 | i::r,v=>n6 r (Obj.aE (aZ i) v)
theorem KA{σ:Type}:∀ (l:List Nat) (st:St σ),(qe st l).s=st.s
 | [],_=>rfl
 | _::r,st=>by rw[qe,KA r]
theorem qS{σ:Type}:∀ (l:List Nat) (st:St σ) (x:Nat),get (qe st l).env x=(get st.env x).map (xM l)
 | [],st,x=>by cases h:get st.env x<;>simp[qe,xM,h]
 | i::r,st,x=>by
  rw[qe,qS r,bs];cases h:get st.env x<;>simp[xM]
theorem lP{σ:Type}:∀ (l:List Nat) (st:St σ) (x:Nat),get (qe st l).heap x=if x∈l then none else (get st.heap x).map (n6 l)
 | [],st,x=>by cases h:get st.heap x<;>simp[qe,n6,h]
 | i::r,st,x=>by
  rw[qe,lP r,bs,dP];by_cases h1:x∈r
  ·simp[h1]
  ·by_cases h2:x=i
   ·simp[h2]
   ·cases h:get st.heap x<;>simp[h1,h2,n6]
theorem A3:∀ (l:List Nat) (v:V),(∀ i∈l,¬ gm v i)->xM l v=v
 | [],_,_=>rfl
 | i::r,v,h=>by
  rw[xM,uh i v (h i (List.mem_cons_self ..))];exact A3 r v fun j hj=>h j (List.mem_cons_of_mem _ hj)
theorem sr:∀ (l:List Nat) (v:Obj),(∀ i∈l,¬ kA v i)->n6 l v=v
 | [],_,_=>rfl
 | i::r,v,h=>by
  rw[n6,A2 i v (h i (List.mem_cons_self ..))];exact sr r v fun j hj=>h j (List.mem_cons_of_mem _ hj)
section
variable {σ : Type} {cx : Cx σ} {r : Option Nat} {m : List Nat} {L : Loc} {F : Nat -> Nat} {a : Act} {w : World}
theorem Good.qe:∀ (l:List Nat) {st:St σ},Good cx r m L F st a w->Good cx r m L F (qe st l) a w
 | [],st,h=>h
 | i::l,st,h=>by
  have h1:Good cx r m L F ⟨st.env,cut st.heap i,st.s⟩ a w:=h.del i;exact Good.qe l (h1.kill i)
end
theorem vq{e:Env}{h:aq}(k:Nat){x:Nat}(hx:x=k\/p7 ⟨get e,get h⟩ x):p7 ⟨get (ct (aE (aZ k)) e),get (ct (Obj.aE (aZ k)) (cut h k))⟩ x:=by
 refine⟨?_,fun t v ht vd=>?_,fun t o ht vd=>?_⟩
 ·show get _ x=none
  rw[bs,dP];split
  ·rfl
  ·rename_i RM
   have:get h x=none:=(hx.resolve_left RM).none;rw[this];rfl
 ·simp only[bs]at ht
  cases h1:get e t with
  | none=>simp[h1]at ht
  | some v0=>
   simp[h1]at ht;subst ht;obtain⟨y,h2,rfl,h3⟩:=l5 (uj k) v0 x vd;exact(hx.resolve_left h3).env t v0 h1 h2
 ·simp only[bs,dP]at ht
  split at ht
  ·cases ht
  ·cases h1:get h t with
   | none=>simp[h1]at ht
   | some v0=>
    simp[h1]at ht;subst ht;obtain⟨y,h2,rfl,h3⟩:=qq (uj k) v0 x vd;exact(hx.resolve_left h3).heap t v0 h1 h2
theorem Dy{σ:Type}:∀ (l:List Nat) (st:St σ) (B:Nat->Prop),(∀ x,B x->p7 (cz st) x) -> ∀ x,x∈l\/B x->p7 (cz (qe st l)) x
 | [],st,B,hB,x,hx=>hB x (hx.resolve_left (by simp))
 | i::l,st,B,hB,x,hx=>by
  rw[qe];refine Dy l ⟨ct (aE (aZ i)) st.env,ct (Obj.aE (aZ i)) (cut st.heap i),st.s⟩ (fun y=>y=i\/B y) (fun y hy=>vq i (hy.imp id (hB y))) x ?_;rcases hx with hx|hx
  ·rcases List.mem_cons.1 hx with rfl|hx
   ·exact .inr (.inl rfl)
   ·exact .inl hx
  ·exact .inr (.inr hx)
theorem AA{σ:Type}:∀ (ws:List Wr) (st:St σ),dD ws=true->cz (aF st ws)=bT (cz (qe st (bw ws))) ws
 | [],st,_=>rfl
 | w::r,st,eg=>by
  obtain⟨h1,h2,h3,h4⟩:=tz eg;rw[aF,AA r _ h1,bT]
  congr 1
  have put:∀ (i:Nat) (o:Obj),(∀ x∈bw r,x∉eE o)->(∀ x∈bw r,x≠i) -> ∀ (e:Env) (h:aq) (s:σ),
    cz (qe (⟨e,put h i o,s⟩:St σ) (bw r))=⟨(cz (qe (⟨e,h,s⟩:St σ) (bw r))).env,fun x=>if x=i then some o else (cz (qe (⟨e,h,s⟩:St σ) (bw r))).heap x⟩:=by
   intro i o ho hi e h s
   ext1
   ·funext x;simp only[cz,qS]
   ·funext x
    simp only[cz,lP,db];by_cases hx:x=i
    ·subst hx
     rw[if_neg (fun hm=>hi x hm rfl),if_pos rfl,if_pos rfl];simp only[Option.map_some];rw[sr _ _ fun j hj hn=>ho j hj (ed j o hn)]
    ·simp only[hx,if_false]
  have one:∀ (i:Nat) (o:Obj),(∀ x∈bw r,x∉eE o)->(∀ x∈bw r,x≠i) -> ∀ (e:Env) (h:aq) (s:σ),
    cz (qe (⟨e,(i,o)::h,s⟩:St σ) (bw r))=⟨(cz (qe (⟨e,h,s⟩:St σ) (bw r))).env,fun x=>if x=i then some o else (cz (qe (⟨e,h,s⟩:St σ) (bw r))).heap x⟩:=by
   intro i o ho hi e h s
   ext1
   ·funext x;simp only[cz,qS]
   ·funext x
    simp only[cz,lP,dQ];by_cases hx:x=i
    ·subst hx
     rw[if_neg (fun hm=>hi x hm rfl),if_pos rfl,if_pos rfl];simp only[Option.map_some];rw[sr _ _ fun j hj hn=>ho j hj (ed j o hn)]
    ·simp only[hx,if_false]
  cases w with
  | set s v=>
   simp only[bm,bw,fI]
   ext1
   ·funext x
    simp only[cz,qS,db];split
    ·simp only[Option.map_some]
     rw[A3 _ _ fun j hj hn=>h2 j hj (by simp[bQ,gS j v hn])]
    ·rfl
   ·funext x;simp only[cz,lP]
  | obj i o=>
   simp only[bm,bw,fI];exact put i o (fun x hx=>by simpa[bQ]using h2 x hx) (fun x hx he=>by obtain⟨_,hd⟩:=h3 x hx (by simp[cp,he]);cases hd) _ _ _
  | new i o=>
   simp only[bm,bw,fI];rw[qe];exact one i o (fun x hx=>by simpa[bQ]using h2 x hx) (fun x hx he=>by obtain⟨_,hd⟩:=h3 x hx (by simp[cp,he]);cases hd) _ _ _
  | newq i o=>exact absurd rfl (h4 i o)
  | del i=>
   simp only[bm,bw,fI]
   ext1
   ·funext x;simp only[cz,qS]
   ·funext x
    simp only[cz,lP,dP];by_cases h1:x=i
    ·simp[h1]
    ·simp[h1]
theorem zS(a b:List Wr):bw (a++b)=bw a++bw b:=by
 induction a with
 | nil=>rfl
 | cons w r ih=>cases w<;>simp[bw,ih]
theorem jO(f:Fs)(a b:List Wr):bT f (a++b)=bT (bT f a) b:=by
 induction a generalizing f with
 | nil=>rfl
 | cons w r ih=>simp[bT,ih]
theorem Df(d:Option Nat)(v:V):bw (aO d v) = []:=by cases d<;>rfl
theorem wx(R:Nat->Nat)(h':aq):∀ (l:List Nat) (i:Nat),bw (kx R h' i l) = []
 | [],_=>rfl
 | k::r,i=>by
  simp only[kx];split<;>simp[bw,wx R h' r]
theorem yt(R:Nat->Nat)(h':aq):∀ (l:List Nat),bw (oh R h' l)=l.map R
 | []=>rfl
 | k::r=>by
  simp only[oh];split<;>simp[bw,yt R h' r]
theorem De(tb:List Nat)(d:Option Nat)(v:V)(h':aq):bw (cO tb d v h')=(cC h').map (ck tb (d.getD 0)):=by
 simp only[cO,zS,yt,wx,Df,List.append_nil]
theorem xO(R:Nat->Nat)(h':aq):∀ (l:List Nat) (b:Nat) (f:Fs) (x:Nat) (o:Obj),(bT f (kx R h' b l)).heap x=some o ->
  (∃ k o0,l[k]?=some x/\get h' (b+k)=some o0/\o=iD R o0)\/(x∉l/\f.heap x=some o)
 | [],b,f,x,o,h=>.inr ⟨by simp,h⟩
 | k::r,b,f,x,o,h=>by
  simp only[kx,bT]at h;rcases xO R h' r (b+1) _ x o h with⟨j,o0,h1,h2,h3⟩|⟨h1,h2⟩
  ·exact .inl ⟨j+1,o0,by simpa using h1,by rw[show b+(j+1)=b+1+j by omega];exact h2,h3⟩
  ·by_cases hx:x=k
   ·subst hx
    left;split at h2
    ·rename_i o0 ho
     simp only[fI,if_true,Option.some.injEq]at h2;exact⟨0,o0,by simp,ho,h2.symm⟩
    ·simp[fI]at h2
   ·right
    refine⟨by simp[hx,h1],?_⟩;split at h2
    ·simpa[fI,hx]using h2
    ·simpa[fI,hx]using h2
theorem vu(R:Nat->Nat)(h':aq):∀ (l:List Nat) (b:Nat) (f:Fs),(bT f (kx R h' b l)).env=f.env
 | [],b,f=>rfl
 | k::r,b,f=>by
  simp only[kx,bT];rw[vu R h' r];split<;>rfl
theorem Bf(R:Nat->Nat)(h':aq):∀ (l:List Nat) (f:Fs) (x:Nat) (o:Obj),(∀ i∈l,(get h' i).isSome)->(bT f (oh R h' l)).heap x=some o ->
  (∃ i o0,i∈l/\x=R i/\get h' i=some o0/\o=iD R o0)\/(x∉l.map R/\f.heap x=some o)
 | [],f,x,o,_,h=>.inr ⟨by simp,h⟩
 | k::r,f,x,o,hl,h=>by
  simp only[oh,bT]at h;rcases Bf R h' r _ x o (fun i hi=>hl i (List.mem_cons_of_mem _ hi)) h with⟨i,o0,h1,h2,h3⟩|⟨h1,h2⟩
  ·exact .inl ⟨i,o0,List.mem_cons_of_mem _ h1,h2,h3⟩
  ·obtain⟨o0,ho⟩:=Option.isSome_iff_exists.1 (hl k (List.mem_cons_self ..))
   simp only[ho,fI]at h2;by_cases hx:x=R k
   ·subst hx
    simp only[if_true,Option.some.injEq]at h2;exact .inl ⟨k,o0,List.mem_cons_self ..,rfl,ho,h2.symm⟩
   ·exact .inr ⟨by simpa[hx]using h1,by simpa[hx]using h2⟩
theorem zw(R:Nat->Nat)(h':aq):∀ (l:List Nat) (f:Fs),(bT f (oh R h' l)).env=f.env
 | [],f=>rfl
 | k::r,f=>by
  simp only[oh,bT];rw[zw R h' r];split<;>rfl
theorem tw:∀ {h:aq} {i:Nat},i∈cC h->(get h i).isSome
 | [],i,h=>by cases h
 | (k,p)::r,i,h=>by
  simp only[get];split
  ·rfl
  ·rename_i hk
   refine tw ?_;simp only[cC]at h;split at h
   ·exact h
   ·rcases List.mem_cons.1 h with rfl|h
    ·simp at hk
    ·exact h
end Go.PX
