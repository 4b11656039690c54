import Derived.Test.YtmbefpmbnhdbpaaGreatDoorPxF
import Derived.RangeFuncLeaves
import Derived.RangeFuncRecord
set_option linter.all false
namespace Go.PX
open Go.RowKit
def tO(f:V->V)(R:Nat->Nat->Prop):Prop:=∀ v x y,nZ v=some y->iQ (f v) x->R y x
mutual
theorem oF{f:V->V}{R:Nat->Nat->Prop}(hf:tO f R):∀ (v:V) (x:Nat),iQ (aJ f v) x -> ∃ y,iQ v y/\R y x
 | .d _,_,h=>h.elim
 | .agg cs,x,h=>jj hf cs x h
 | .tup cs,x,h=>jj hf cs x h
 | .clo _ cs,x,h=>jj hf cs x h
 | .ptr i off,x,h=>⟨i,rfl,hf _ x i rfl h⟩
 | .ep i sz j off,x,h=>⟨i,rfl,hf _ x i rfl h⟩
 | .sl i sz off len,x,h=>⟨i,rfl,hf _ x i rfl h⟩
 | .mp i,x,h=>⟨i,rfl,hf _ x i rfl h⟩
 | .it i,x,h=>⟨i,rfl,hf _ x i rfl h⟩
 | .yld,_,h=>h.elim
 | .unk,_,h=>h.elim
theorem jj{f:V->V}{R:Nat->Nat->Prop}(hf:tO f R):∀ (vs:List V) (x:Nat),cm (dz f vs) x -> ∃ y,cm vs y/\R y x
 | [],_,h=>h.elim
 | v::r,x,h=>by
  rcases h with h|h
  ·obtain⟨y,h1,h2⟩:=oF hf v x h;exact⟨y,.inl h1,h2⟩
  ·obtain⟨y,h1,h2⟩:=jj hf r x h;exact⟨y,.inr h1,h2⟩
end
theorem tk{f:V->V}{R:Nat->Nat->Prop}(hf:tO f R)(o:Obj)(x:Nat)(h:mW (Obj.aJ f o) x):∃ y,mW o y/\R y x:=by
 cases o with
 | box c=>cases c with
  | dd l=>exact(fL l x h).elim
  | vv l=>exact jj hf l x h
 | arr sz es=>cases es with
  | dd l=>
   exfalso;have h:cm (bg l).flatten x:=h;rw[eG]at h;exact fL _ x h
  | vv l=>
   have h:cm (aX f l).flatten x:=h;rw[gF]at h;exact jj hf l.flatten x h
 | map cY=>exact h.elim
 | iter s n=>exact h.elim
 | buf t s=>exact h.elim
 | tb t l=>exact jj hf l x h
 | mit v n l u=>exact oF hf v x h
theorem ya(k:Nat):tO (bp k) fun y x=>x=y/\x≠k:=by
 intro v x y hy h;simp only[bp,hy]at h;split at h
 ·exact h.elim
 ·rename_i hk
  have Ln:x=y:=by
   cases v<;>simp only[nZ,Option.some.injEq]at hy<;>first|(cases hy;done)|skip
   all_goals (subst hy;exact(show _=_ from h).symm)
  subst Ln;exact⟨rfl,by rintro rfl;simp at hk⟩
theorem Jd(i j:Nat):tO (iY i j) fun y x=>(y=i/\x=j)\/(y≠i/\x=y):=by
 intro v x y hy h;cases v<;>simp only[nZ,Option.some.injEq]at hy<;>first|(cases hy;done)|skip
 all_goals
  subst hy;simp only[iY]at h;split at h
  ·rename_i hk
   exact .inl ⟨Nat.eq_of_beq_eq_true hk,(show _=_ from h).symm⟩
  ·rename_i hk
   exact .inr ⟨by rintro rfl;simp at hk,(show _=_ from h).symm⟩
mutual
theorem br.move{yv:Option Nat}{L L':Loc}{F:Nat->Nat}{w:World}{i j:Nat}(hj:L'.ρ j=L.ρ i/\L'.κ j=L.κ i)(hx:∀ x,x≠j->L'.ρ x=L.ρ x/\L'.κ x=L.κ x):∀ (v:V) (x:Value),¬ iQ v j->br yv L F w v x->br yv L' F w (aJ (iY i j) v) x
 | .d v,_,_,hr=>hr
 | .agg cs,_,hn,hr=>by
  obtain⟨l,rfl,hl⟩:=hr;exact⟨l,rfl,aq.move hj hx cs _ hn hl⟩
 | .tup cs,_,hn,hr=>by
  obtain⟨l,rfl,hl⟩:=hr;exact⟨l,rfl,aq.move hj hx cs _ hn hl⟩
 | .ptr id off,x,hn,hr=>by
  have hr:x = .pointer (some ⟨L.ρ id,off,none⟩):=hr;have hid:id≠j:=hn;simp only[aJ,iY];cases h:Nat.beq id i
  ·show x = .pointer (some ⟨L'.ρ id,off,none⟩)
   rw[(hx id hid).1];exact hr
  ·have:=Nat.eq_of_beq_eq_true h;subst this
   show x = .pointer (some ⟨L'.ρ j,off,none⟩);rw[hj.1];exact hr
 | .ep id sz k off,x,hn,hr=>by
  have hr:x = .pointer (some ⟨L.ρ id,k*sz+off,none⟩):=hr;have hid:id≠j:=hn;simp only[aJ,iY];cases h:Nat.beq id i
  ·show x = .pointer (some ⟨L'.ρ id,k*sz+off,none⟩)
   rw[(hx id hid).1];exact hr
  ·have:=Nat.eq_of_beq_eq_true h;subst this
   show x = .pointer (some ⟨L'.ρ j,k*sz+off,none⟩);rw[hj.1];exact hr
 | .sl id sz off len,x,hn,hr=>by
  obtain⟨a,cap,rfl,hl,hs,hc⟩:=hr;have hid:id≠j:=hn;simp only[aJ,iY];cases h:Nat.beq id i
  ·refine⟨a,cap,rfl,hl,hs,?_⟩
   rw[(hx id hid).1,(hx id hid).2];exact hc
  ·have:=Nat.eq_of_beq_eq_true h;subst this
   refine⟨a,cap,rfl,hl,hs,?_⟩;rw[hj.1,hj.2];exact hc
 | .mp id,x,hn,hr=>by
  have hr:x = .map (some (L.ρ id)):=hr;have hid:id≠j:=hn;simp only[aJ,iY];cases h:Nat.beq id i
  ·show x = .map (some (L'.ρ id))
   rw[(hx id hid).1];exact hr
  ·have:=Nat.eq_of_beq_eq_true h;subst this
   show x = .map (some (L'.ρ j));rw[hj.1];exact hr
 | .it id,x,hn,hr=>by
  have hr:x = .pointer (some ⟨L.ρ id,0,none⟩):=hr;have hid:id≠j:=hn;simp only[aJ,iY];cases h:Nat.beq id i
  ·show x = .pointer (some ⟨L'.ρ id,0,none⟩)
   rw[(hx id hid).1];exact hr
  ·have:=Nat.eq_of_beq_eq_true h;subst this
   show x = .pointer (some ⟨L'.ρ j,0,none⟩);rw[hj.1];exact hr
 | .clo f cs,_,hn,hr=>by
  obtain⟨l,rfl,hl⟩:=hr;exact⟨l,rfl,aq.move hj hx cs _ hn hl⟩
 | .yld,_,_,hr=>hr
 | .unk,_,_,hr=>hr
theorem aq.move{yv:Option Nat}{L L':Loc}{F:Nat->Nat}{w:World}{i j:Nat}(hj:L'.ρ j=L.ρ i/\L'.κ j=L.κ i)(hx:∀ x,x≠j->L'.ρ x=L.ρ x/\L'.κ x=L.κ x):∀ (vs:List V) (l:List Value),¬ cm vs j->aq yv L F w vs l->aq yv L' F w (dz (iY i j) vs) l
 | [],_,_,hr=>hr
 | v::r,_,hn,hr=>by
  simp only[cm,not_or]at hn;obtain⟨x,l',rfl,hv,hl⟩:=hr;exact⟨x,l',rfl,br.move hj hx v x hn.1 hv,aq.move hj hx r l' hn.2 hl⟩
end
section
variable {yv : Option Nat} {L L' : Loc} {F : Nat -> Nat} {w : World} {i j : Nat}
theorem bU.move(hj:L'.ρ j=L.ρ i/\L'.κ j=L.κ i)(hx:∀ x,x≠j->L'.ρ x=L.ρ x/\L'.κ x=L.κ x){id pz:Nat}(hid:L'.ρ pz=L.ρ id/\L'.κ pz=L.κ id)(o:Obj)(hn:¬ mW o j)
  (h:bU yv L F w id o):bU yv L' F w pz (Obj.aJ (iY i j) o):=by
 cases o with
 | box c=>
  cases c with
  | dd l=>
   obtain⟨c,T,hc,hr⟩:=h;exact⟨c,T,by rw[hid.1];exact hc,aq.inj.2 (aq.inj.1 hr)⟩
  | vv l=>
   obtain⟨c,T,hc,hr⟩:=h;exact⟨c,T,by rw[hid.1];exact hc,aq.move hj hx _ _ hn hr⟩
 | arr sz es=>
  cases es with
  | dd l=>
   obtain⟨hs,hl,h⟩:=h;refine⟨hs,hl,?_⟩;rcases h with⟨h,hk⟩|⟨c,T,hc,hk,lH,hr⟩
   ·exact .inl ⟨h,by rw[hid.2];exact hk⟩
   ·refine .inr ⟨c,T,by rw[hid.1];exact hc,by rw[hid.2];exact hk,lH,?_⟩
    have hr:aq yv L F w (bg l).flatten _:=hr;show aq yv L' F w (bg l).flatten _;rw[eG]at hr ⊢;exact aq.inj.2 (aq.inj.1 hr)
  | vv l=>
   obtain⟨hs,hl,h⟩:=h;refine⟨hs,?_,?_⟩
   ·intro e he
    obtain⟨e0,h0,rfl⟩:=xc _ _ _ he;rw[kF];exact hl e0 h0
   ·rcases h with⟨h,hk⟩|⟨c,T,hc,hk,lH,hr⟩
    ·left
     have h:l = []:=h;subst h;exact⟨rfl,by rw[hid.2];exact hk⟩
    ·right
     refine⟨c,T,by rw[hid.1];exact hc,by rw[hid.2];exact hk,?_,?_⟩
     ·show(aX _ l).length*sz<=_
      rw[ik];exact lH
     ·show aq yv L' F w (aX _ l).flatten (c.toList.take ((aX _ l).length*sz))
      rw[ik,gF];exact aq.move hj hx _ _ hn hr
 | map cY=>obtain⟨en,c,hc,hr⟩:=h;exact⟨en,c,by rw[hid.1];exact hc,hr⟩
 | iter s n=>
  show w.heap[L'.ρ pz]?=_;rw[hid.1];exact h
 | buf t s=>
  obtain⟨c,h1,h2,h3⟩:=h;exact⟨c,by rw[hid.1];exact h1,by rw[hid.2];exact h2,h3⟩
 | tb t l=>
  obtain⟨c,hc,hr⟩:=h;exact⟨c,by rw[hid.1];exact hc,aq.move hj hx _ _ hn hr⟩
 | mit v n l u=>
  obtain⟨r,seen,h1,h2,h3⟩:=h;exact⟨r,seen,br.move hj hx _ _ hn h1,by rw[hid.1];exact h2,h3⟩
theorem oR{f:V->V}{id pz:Nat}(hk:L'.κ pz=L.κ id)(o:Obj):aS L' pz (Obj.aJ f o)↔aS L id o:=by
 cases o with
 | box c=>cases c<;>exact Iff.rfl
 | arr sz es=>cases es<;>simp[Obj.aJ,aS,hk]
 | map cY=>exact Iff.rfl
 | iter s n=>exact Iff.rfl
 | buf t s=>exact Iff.rfl
 | tb t l=>exact Iff.rfl
 | mit v n l u=>exact Iff.rfl
theorem vB(h:Heap)(hj:get h j=none)(x:Nat):get (oC i j h) x=if x=j then (get h i).map (Obj.aJ (iY i j)) else if x=i then none else (get h x).map (Obj.aJ (iY i j)):=by
 induction h with
 | nil=>simp[oC,get]
 | cons kv r ih=>
  obtain⟨k,o⟩:=kv;have WI:k≠j:=by rintro rfl;simp[get]at hj
  have aaZ:Nat.beq k j=false:=by rw[Bool.eq_false_iff];exact fun e=>WI (Nat.eq_of_beq_eq_true e)
  have C4:get r j=none:=by simpa[get,aaZ]using hj
  simp only[oC]
  cases hk:Nat.beq k i with
  | true=>
   have:=Nat.eq_of_beq_eq_true hk;subst this;simp only[get];by_cases hx:x=j
   ·subst hx;simp
   ·have hjx:Nat.beq j x=false:=by rw[Bool.eq_false_iff];exact fun e=>hx (Nat.eq_of_beq_eq_true e).symm
    simp only[hjx,ih C4,hx,if_false];by_cases Xp:x=k
    ·subst Xp;simp
    ·have:Nat.beq k x=false:=by rw[Bool.eq_false_iff];exact fun e=>Xp (Nat.eq_of_beq_eq_true e).symm
     simp[Xp,this]
  | false=>
   have J2:k≠i:=by rintro rfl;simp at hk
   simp only[get]
   cases Li:Nat.beq k x with
   | true=>
    have:=Nat.eq_of_beq_eq_true Li;subst this;simp[WI,J2]
   | false=>simp only[ih C4,hk]
end
section
variable {σ : Type} {cx : Cx σ} {r : Option Nat} {m : List Nat} {L : Loc} {F : Nat -> Nat} {a : Act} {w : World} {e : Env} {h : Heap} {s : σ}
theorem Good.kill(hh:Good cx r m L F ⟨e,h,s⟩ a w)(d:Nat):Good cx r m L F ⟨dv (aJ (bp d)) e,dv (Obj.aJ (bp d)) h,s⟩ a w:=by
 have hg:∀ i o',get (dv (Obj.aJ (bp d)) h) i=some o' -> ∃ o0,get h i=some o0/\o'=Obj.aJ (bp d) o0:=by
  intro i o' hi;rw[bY]at hi
  cases h0:get h i with
  | none=>simp[h0]at hi
  | some o0=>simp[h0]at hi;exact⟨o0,rfl,hi.symm⟩
 refine⟨⟨hh.heap.hg,hh.heap.hP,hh.heap.fresh,?_,?_,?_⟩,?_,hh.tZ,hh.pB,hh.xe,hh.lk,hh.jF,hh.ve⟩
 ·intro i o' hi
  obtain⟨o0,h0,rfl⟩:=hg i o' hi;exact bU.kill d i o0 (hh.heap.obj i o0 h0)
 ·intro i o' hi hb
  obtain⟨o0,h0,rfl⟩:=hg i o' hi;exact hh.heap.own i o0 h0 ((fh L d i o0).1 hb)
 ·intro i j o' p hi hj mf jt he
  obtain⟨o0,h0,rfl⟩:=hg i o' hi;obtain⟨p0,E2,rfl⟩:=hg j p hj;exact hh.heap.inj i j o0 p0 h0 E2 ((fh L d i o0).1 mf) ((fh L d j p0).1 jt) he
 ·intro t v ht
  simp only[bY]at ht
  cases h0:get e t with
  | none=>simp[h0]at ht
  | some v0=>
   simp[h0]at ht;subst ht;obtain⟨x,hx,hr⟩:=hh.env t v0 h0;exact⟨x,hx,br.kill d v0 x hr⟩
theorem Good.move(hh:Good cx r m L F ⟨e,h,s⟩ a w){i j:Nat}(xI:¬ pinned j)(qe:i≠j)(hu:tI ⟨get e,get h⟩ j) :
  Good cx r m ⟨fun x=>if x=j then L.ρ i else L.ρ x,fun x=>if x=j then L.κ i else L.κ x⟩ F ⟨dv (aJ (iY i j)) e,oC i j h,s⟩ a w:=by
 have hj:((⟨fun x=>if x=j then L.ρ i else L.ρ x,fun x=>if x=j then L.κ i else L.κ x⟩:Loc).ρ j=L.ρ i/\(⟨fun x=>if x=j then L.ρ i else L.ρ x,fun x=>if x=j then L.κ i else L.κ x⟩:Loc).κ j=L.κ i):=by simp
 have hx:∀ x,x≠j->((⟨fun x=>if x=j then L.ρ i else L.ρ x,fun x=>if x=j then L.κ i else L.κ x⟩:Loc).ρ x=L.ρ x/\(⟨fun x=>if x=j then L.ρ i else L.ρ x,fun x=>if x=j then L.κ i else L.κ x⟩:Loc).κ x=L.κ x):=by
  intro x hx;simp[hx]
 generalize (⟨fun x=>if x=j then L.ρ i else L.ρ x,fun x=>if x=j then L.κ i else L.κ x⟩:Loc)=L' at hj hx ⊢;have hg:∀ x o',get (oC i j h) x=some o' -> ∃ y o0,get h y=some o0/\o'=Obj.aJ (iY i j) o0/\(L'.ρ x=L.ρ y/\L'.κ x=L.κ y)/\((x=j/\y=i)\/(x≠j/\x≠i/\y=x)):=by
  intro x o' hi;rw[vB h hu.none]at hi;split at hi
  ·rename_i e1;subst e1
   cases h0:get h i with
   | none=>simp[h0]at hi
   | some o0=>simp[h0]at hi;exact⟨i,o0,h0,hi.symm,hj,.inl ⟨rfl,rfl⟩⟩
  ·rename_i e1
   split at hi
   ·cases hi
   ·rename_i e2
    cases h0:get h x with
    | none=>simp[h0]at hi
    | some o0=>simp[h0]at hi;exact⟨x,o0,h0,hi.symm,hx x e1,.inr ⟨e1,e2,rfl⟩⟩
 refine⟨⟨hh.heap.hg,hh.heap.hP,hh.heap.fresh,?_,?_,?_⟩,?_,hh.tZ,hh.pB,hh.xe,hh.lk,fun x hp=>by
  have Y5:x≠j:=by rintro rfl;exact xI hp
  rw[(hx x Y5).1,(hx x Y5).2];exact hh.jF x hp,hh.ve⟩
 ·intro x o' hi
  obtain⟨y,o0,h0,rfl,hl,_⟩:=hg x o' hi;exact bU.move hj hx hl o0 (hu.heap y o0 h0) (hh.heap.obj y o0 h0)
 ·intro x o' hi hb
  obtain⟨y,o0,h0,rfl,hl,_⟩:=hg x o' hi;rw[hl.1];exact hh.heap.own y o0 h0 ((oR hl.2 o0).1 hb)
 ·intro x x' o' p hi C4 mf jt he
  obtain⟨y,o0,h0,rfl,hl,hy⟩:=hg x o' hi;obtain⟨z,p0,E2,rfl,lH,hz⟩:=hg x' p C4;rw[hl.1,lH.1]at he;have:=hh.heap.inj y z o0 p0 h0 E2 ((oR hl.2 o0).1 mf) ((oR lH.2 p0).1 jt) he;rcases hy with⟨rfl,rfl⟩|⟨h1,h2,rfl⟩<;>rcases hz with⟨rfl,rfl⟩|⟨h3,h4,rfl⟩
  ·rfl
  ·exact absurd this.symm h4
  ·exact absurd this h2
  ·exact this
 ·intro t v ht
  simp only[bY]at ht
  cases h0:get e t with
  | none=>simp[h0]at ht
  | some v0=>
   simp[h0]at ht;subst ht;obtain⟨x,kE,hr⟩:=hh.env t v0 h0;exact⟨x,kE,br.move hj hx v0 x (hu.env t v0 h0) hr⟩
theorem It{K:Env->Heap->Prop}:∀ (l:List Nat) {L:Loc} {e:Env} {h:Heap},(∀ d∈l,d<500000)->Good cx r m L F ⟨e,h,s⟩ a w->wK l e h K -> ∀ (B:Nat->Prop),(∀ d,B d->d<500000/\tI ⟨get e,get h⟩ d) ->
  ∃ e' h' L',K e' h'/\Good cx r m L' F ⟨e',h',s⟩ a w /\ ∀ d,d∈l\/B d->tI ⟨get e',get h'⟩ d
 | [],L,e,h,_,hg,hk,B,hB=>⟨e,h,L,hk,hg,fun d hd=>(hd.elim (fun h=>by cases h) fun h=>(hB d h).2)⟩
 | d::l,L,e,h,hl,hg,hk,B,hB=>by
  have hd:d<500000:=hl d (List.mem_cons_self ..);have kill:∀ k (e:Env) (h:Heap),(∀ x,tI ⟨get e,get h⟩ x->tI ⟨get (dv (aJ (bp k)) e),get (dv (Obj.aJ (bp k)) h)⟩ x) /\
    (get h k=none->tI ⟨get (dv (aJ (bp k)) e),get (dv (Obj.aJ (bp k)) h)⟩ k):=by
   intro k e h;have hn:∀ x,(get h x=none)->(∀ y,x=y/\x≠k->¬ (∃ s v,get e s=some v/\iQ v y)/\¬ (∃ s v,get h s=some v/\mW v y))->tI ⟨get (dv (aJ (bp k)) e),get (dv (Obj.aJ (bp k)) h)⟩ x:=by
    intro x h0 hy;refine⟨by simp[bY,h0],fun t v ht zf=>?_,fun t o ht zf=>?_⟩
    ·simp only[bY]at ht
     cases h1:get e t with
     | none=>simp[h1]at ht
     | some v0=>
      simp[h1]at ht;subst ht;obtain⟨y,h2,h3⟩:=oF (ya k) v0 x zf;exact(hy y h3).1 ⟨t,v0,h1,h2⟩
    ·simp only[bY]at ht
     cases h1:get h t with
     | none=>simp[h1]at ht
     | some v0=>
      simp[h1]at ht;subst ht;obtain⟨y,h2,h3⟩:=tk (ya k) v0 x zf;exact(hy y h3).2 ⟨t,v0,h1,h2⟩
   refine⟨fun x hx=>hn x hx.none fun y hy=>?_,fun h0=>hn k h0 fun y hy=>absurd rfl hy.2⟩;obtain⟨rfl,_⟩:=hy;exact⟨fun⟨t,v,h1,h2⟩=>hx.env t v h1 h2,fun⟨t,v,h1,h2⟩=>hx.heap t v h1 h2⟩
  have next:∀ (e2:Env) (h2:Heap) (L2:Loc),Good cx r m L2 F ⟨e2,h2,s⟩ a w->tI ⟨get e2,get h2⟩ d->(∀ x,B x->tI ⟨get e2,get h2⟩ x)->wK l e2 h2 K ->
    ∃ e' h' L',K e' h'/\Good cx r m L' F ⟨e',h',s⟩ a w /\ ∀ x,x∈d::l\/B x->tI ⟨get e',get h'⟩ x:=by
   intro e2 h2 L2 iK hu2 V7 j8;obtain⟨e',h',L',k1,k2,k3⟩:=It l (fun x hx=>hl x (List.mem_cons_of_mem _ hx)) iK j8 (fun x=>x=d\/B x) (fun x hx=>by
    rcases hx with rfl|hx
    ·exact⟨hd,hu2⟩
    ·exact⟨(hB x hx).1,V7 x hx⟩)
   refine⟨e',h',L',k1,k2,fun x hx=>k3 x ?_⟩;rcases hx with hx|hx
   ·rcases List.mem_cons.1 hx with rfl|hx
    ·exact .inr (.inl rfl)
    ·exact .inl hx
   ·exact .inr (.inr hx)
  have hk:(match get h d with
   | none=>fw (dv (aJ (bp d)) e) fun e=>iP (dv (Obj.aJ (bp d)) h) fun h=>wK l e h K
   | some _=>fw (dv (aJ (iY d (500000+d))) (dv (aJ (bp (500000+d))) e)) fun e=>
    iP (oC d (500000+d) (dv (Obj.aJ (bp (500000+d))) (cut h (500000+d)))) fun h=>wK l e h K):=hk
  split at hk
  ·rename_i h0
   rw[gI,js]at hk;exact next _ _ L (hg.kill d) ((kill d e h).2 h0) (fun x hx=>(kill d e h).1 x (hB x hx).2) hk
  ·rename_i fx _ o0 h0
   clear fx;rw[gI,js]at hk;have dX:Good cx r m L F ⟨e,cut h (500000+d),s⟩ a w:=hg.sub (fun _ _ h=>h) fun i o hi=>by
    rw[e5]at hi;split at hi
    ·cases hi
    ·exact hi
   have iK:=dX.kill (500000+d);have hu:=(kill (500000+d) e (cut h (500000+d))).2 (by simp[e5]);have hB1:∀ x,B x->tI ⟨get e,get (cut h (500000+d))⟩ x:=fun x hx=>by
    have hu:=(hB x hx).2;have mN:∀ i o,get (cut h (500000+d)) i=some o->get h i=some o:=fun i o hi=>by
     rw[e5]at hi;split at hi
     ·cases hi
     ·exact hi
    refine⟨?_,hu.env,fun i o hi=>hu.heap i o (mN i o hi)⟩
    cases hc:get (cut h (500000+d)) x with
    | none=>exact hc
    | some o=>have h1:=mN x o hc;have h2:get h x=none:=hu.none;rw[h2]at h1;cases h1
   have V7:=fun x hx=>(kill (500000+d) e (cut h (500000+d))).1 x (hB1 x hx);generalize dv (aJ (bp (500000+d))) e=e1 at hk iK hu V7;generalize dv (Obj.aJ (bp (500000+d))) (cut h (500000+d))=h1 at hk iK hu V7;have hu3:∀ x,x≠500000+d->(x=d\/tI ⟨get e1,get h1⟩ x)->tI ⟨get (dv (aJ (iY d (500000+d))) e1),get (oC d (500000+d) h1)⟩ x:=by
    intro x hx S8;have ob:∀ y,(y=d/\x=500000+d)\/(y≠d/\x=y)->x≠d/\x=y:=by
     rintro y (⟨_,h⟩|⟨h,rfl⟩)
     ·exact absurd h hx
     ·exact⟨h,rfl⟩
    have hux:x≠d->tI ⟨get e1,get h1⟩ x:=fun h=>S8.resolve_left h;refine⟨?_,fun t v ht zf=>?_,fun t o ht zf=>?_⟩
    ·show get (oC d (500000+d) h1) x=none
     rw[vB h1 hu.none,if_neg hx];split
     ·rfl
     ·rename_i hxd
      have:get h1 x=none:=(hux hxd).none;rw[this];rfl
    ·simp only[bY]at ht
     cases BI:get e1 t with
     | none=>simp[BI]at ht
     | some v0=>
      simp[BI]at ht;subst ht;obtain⟨y,h2,h3⟩:=oF (Jd d (500000+d)) v0 x zf;obtain⟨h4,rfl⟩:=ob y h3;exact(hux h4).env t v0 BI h2
    ·have ht:get (oC d (500000+d) h1) t=some o:=ht
     rw[vB h1 hu.none]at ht;have:∃ y o0,get h1 y=some o0/\o=Obj.aJ (iY d (500000+d)) o0:=by
      split at ht
      ·cases BI:get h1 d with
       | none=>simp[BI]at ht
       | some v0=>simp[BI]at ht;exact⟨d,v0,BI,ht.symm⟩
      ·split at ht
       ·cases ht
       ·cases BI:get h1 t with
        | none=>simp[BI]at ht
        | some v0=>simp[BI]at ht;exact⟨t,v0,BI,ht.symm⟩
     obtain⟨z,o0,BI,rfl⟩:=this;obtain⟨y,h2,h3⟩:=tk (Jd d (500000+d)) o0 x zf;obtain⟨h4,rfl⟩:=ob y h3;exact(hux h4).heap z o0 BI h2
   have EX:=iK.move (i:=d) (j:=500000+d) (by unfold pinned;omega) (by omega) hu;exact next _ _ _ EX (hu3 d (by omega) (.inl rfl)) (fun x hx=>hu3 x (by have:=(hB x hx).1;omega) (.inr (V7 x hx))) hk
end
end Go.PX
namespace Go.PX
open Go.RowKit
structure Bi(P:Program)(ops:Array Oper)(jV:List OT)(q:Rec):Prop where
 op:∃ o t,ops[q.idx]?=some o/\jV[q.idx]?=some t/\q.mh=t.mh/\(∀ x∈oP q.ws,o.dst=some x)/\(∀ x v,get q.e x=some v->x∈t.ts)
 hk:∀ x v,get q.h x=some v->x∈q.os
 news:gh q.ws=true
 snd:wG P ops q
theorem apart_spec{a b:OO}(h:apart a b=true):mB a.mo b.os=true/\mB a.mo b.mo=true/\mB b.mo a.os=true/\mB b.nw a.xM=true:=by
 unfold apart at h;split at h
 ·rename_i h1 h2 h3 h4;exact⟨h1,h2,h3,h4⟩
 ·cases h
theorem sw{o:OO}{acc:List OO}:∀ {l:List Nat},mw o acc l=true -> ∀ i∈l,∀ p,acc[i]?=some p->apart o p=true
 | [],_,i,hi,_,_=>by cases hi
 | k::r,h,i,hi,p,hp=>by
  simp only[mw]at h;split at h;case h_2=>cases h
  rename_i p' J7;split at h;case h_2=>cases h
  rename_i hap;rcases List.mem_cons.1 hi with rfl|hi
  ·rw[hp]at J7;cases J7;exact hap
  ·exact sw h i hi p hp
theorem xf{mk:List Nat}:∀ {acc:List OO},tn mk acc=true -> ∀ p∈acc,mB mk p.xM=true/\mB mk p.mo=true
 | [],_,p,hp=>by cases hp
 | q::r,h,p,hp=>by
  simp only[tn]at h;split at h;case h_2=>cases h
  rename_i h1 h2;rcases List.mem_cons.1 hp with rfl|hp
  ·exact⟨h1,h2⟩
  ·exact xf h p hp
theorem mP{α:Type}:∀ (l:List Nat) (t:xA α) (s:Nat) (u:α),get (bh l t) s=some u->s∈l
 | l,[],s,u,h=>by cases h
 | l,(k,v)::r,s,u,h=>by
  simp only[bh]at h;split at h
  ·rename_i hk
   simp only[get]at h;split at h
   ·rename_i he;have:=Nat.eq_of_beq_eq_true he;subst this;exact fX.1 hk
   ·exact mP l r s u h
  ·exact mP l r s u h
theorem jC{d:Option Nat}:∀ {ws:List Wr},pI d ws=true -> ∀ x∈oP ws,d=some x
 | [],_,x,hx=>by cases hx
 | w::r,h,x,hx=>by
  cases w with
  | set s v=>
   simp only[pI]at h;split at h;case h_2=>cases h
   rename_i k;split at h;case h_2=>cases h
   rename_i hk;simp only[oP,List.mem_cons]at hx;rcases hx with rfl|hx
   ·rw[Nat.eq_of_beq_eq_true hk]
   ·exact jC h x hx
  | _=>exact jC (ws:=r) h x hx
theorem Mv{ops:Array Oper}{e:Env}{guard:Option (Nat×Bool)}{X Z:List Wr->Prop}(hk:nT ops.toList e guard X Z) :
  ∃ (b:Bool) (ws:List Wr),((b=true/\X ws)\/(b=false/\Z ws))/\(ws = [] \/ ∃ d v,ws = [.set d v]/\get e d=some v) /\
   ∀ {σ:Type} {cx:Cx σ} {r:Option Nat} {m:List Nat} {L:Loc} {F:Nat->Nat} {st:St σ} {a:Act} {w:World} {dst:Option Nat} {op:Op} {ty:TypeId} {pos:String} {after:Array Edge},
    dR e st.env->Good cx r m L F st a w->Region.wanted ⟨dst,op,ty,pos,after,guard⟩ (yielded ops a.tmps)=b:=by
 unfold nT at hk;split at hk
 ·exact⟨true,[],.inl ⟨rfl,hk⟩,.inl rfl,fun _ _=>rfl⟩
 ·rename_i j want
  split at hk;case h_2=>exact hk.elim
  rename_i d _ _ _ _ _ hj;have C4:(ops[j]?).bind (·.dst)=some d:=by
   rw[Array.getElem?_toList]at hj;rw[hj];rfl
  split at hk
  ·rename_i b hb
   have hy:∀ {σ:Type} {cx:Cx σ} {r:Option Nat} {m:List Nat} {L:Loc} {F:Nat->Nat} {st:St σ} {a:Act} {w:World},dR e st.env->Good cx r m L F st a w->yielded ops a.tmps j=some b:=by
    intro σ cx r m L F st a w he hg;obtain⟨x,hx,hr⟩:=hg.env d _ (he _ _ hb);have hr:x = .bool b:=hr;subst hr;unfold yielded;rw[C4];simp[hx]
   split at hk
   ·rcases tU hk with⟨rfl,hk⟩|⟨rfl,hk⟩
    ·exact⟨true,_,.inl ⟨rfl,hk⟩,.inr ⟨d,_,rfl,hb⟩,fun he hg=>by simp[Region.wanted,hy he hg]⟩
    ·exact⟨false,_,.inr ⟨rfl,hk⟩,.inr ⟨d,_,rfl,hb⟩,fun he hg=>by simp[Region.wanted,hy he hg]⟩
   ·rcases tU hk with⟨rfl,hk⟩|⟨rfl,hk⟩
    ·exact⟨false,_,.inr ⟨rfl,hk⟩,.inr ⟨d,_,rfl,hb⟩,fun he hg=>by simp[Region.wanted,hy he hg]⟩
    ·exact⟨true,_,.inl ⟨rfl,hk⟩,.inr ⟨d,_,rfl,hb⟩,fun he hg=>by simp[Region.wanted,hy he hg]⟩
  ·rename_i hb
   refine⟨false,[],.inr ⟨rfl,hk⟩,.inl rfl,fun {σ cx r m L F st a w} _ _ _ _ _ he hg=>?_⟩;obtain⟨x,hx,l,rfl,hl⟩:=hg.env d _ (he _ _ hb);have hy:yielded ops a.tmps j=none:=by
    unfold yielded;rw[C4];simp[hx]
   simp[Region.wanted,hy]
  ·exact hk.elim
theorem Mo{σ:Type}{e:Env}{h:Heap}{s:σ}{ws:List Wr}(hw:ws = [] \/ ∃ d v,ws = [.set d v]/\get e d=some v):ef (aL (⟨e,h,s⟩:St σ) ws)=⟨get e,get h⟩:=by
 rcases hw with rfl|⟨d,v,rfl,hv⟩
 ·rfl
 ·simp only[ef,aL,bV]
  congr 1
  funext x
  rw[e6];split
  ·rename_i he;subst he;exact hv.symm
  ·rfl
theorem On(P:Program)(T:fA)(made:List Nat)(ops:List Oper)(dst:Option Nat)(op:Op)(ty:TypeId)(pos:String)(after:Array Edge)(guard:Option (Nat×Bool))(ts mh:List Nat)(l:List (Oper×OT))(acc:List OO)(e:Env)(h:Heap)(K:Env->Heap->Prop) :
  Jr P T made ops ((⟨dst,op,ty,pos,after,guard⟩,⟨ts,mh⟩)::l) acc e h K=(eA (looksAt op e h ts) fun os=>fw (bh ts e) fun e'=>iP (bh os h) fun h'=>
    nT ops e' guard
     (fun w=>
      let go:=fun ws=>eA (dy ws) fun mo=>eA (ca ws) fun mk=>eA (cT ws) fun xM=>
       gR (nC dst made acc mh ws ⟨os,mo,mk,xM⟩) (bz w e h fun e h=>bz (tE ws) e h fun e h=>Jr P T made ops l (acc ++ [⟨os,mo,mk,xM⟩]) e h K)
      match op with
      | .call ⟨callee,args,tys⟩=>match callee with
       | .builtin b=>fH T e' h' dst b args tys go
       | .value f=>match aR e' f,et e' args.toList with
        | some (.d (.clo g bc)),some l=>ga P e' h' dst g (l++inj bc) go
        | some (.clo g bc),some l=>ga P e' h' dst g (l++bc) go
        | _,_=>False
       | .invoke f name=>match aR e' f,et e' args.toList with
        | some (.d (.ifc t v)),some l=>Lw P t name fun g=>ga P e' h' dst g (.d v::l) go
        | _,_=>False
      | op=>gW T e' h' dst op go)
     (fun w=>gR (mw ⟨os,[],[],[]⟩ acc mh) (bz w e h fun e h=>bz (bw dst (.d (.tup []))) e h fun e h=>Jr P T made ops l (acc ++ [⟨os,[],[],[]⟩]) e h K))):=rfl
section
variable {P : Program} {T : fA}
theorem B2{ops:Array Oper}{q:Rec}{o:Oper}(ho:ops[q.idx]?=some o)
  (hw:∀ {σ:Type} {cx:Cx σ} {r:Option Nat} {m:List Nat} {L:Loc} {F:Nat->Nat} {st:St σ} {a:Act} {w:World},dR q.e st.env->Good cx r m L F st a w->Region.wanted o (yielded ops a.tmps)=true)
  (fQ:Out P q.e q.h o q.ws) (vj:∀ c,o.op ≠ .defer c):wG P ops q:=by
 intro σ cx E0 r m L F st a w he hh hg hd next Q hn
 simp only[wpOpIn,ho];rw[if_pos (hw he hg)];exact FF fQ he hh hg (hd o ho) vj fun x L' F' w' dN tr=>hn _ L' F' w' (fM x) dN tr
theorem KC{ops:Array Oper}{q:Rec}{dst:Option Nat}{f:Operand}{n:String}{args:Array Operand}{tys:Array TypeId}{ty:TypeId}{pos:String}{after:Array Edge}{guard:Option (Nat×Bool)}
  (ho:ops[q.idx]?=some ⟨dst,.call ⟨.invoke f n,args,tys⟩,ty,pos,after,guard⟩)
  (hw:∀ {σ:Type} {cx:Cx σ} {r:Option Nat} {m:List Nat} {L:Loc} {F:Nat->Nat} {st:St σ} {a:Act} {w:World},dR q.e st.env->Good cx r m L F st a w->Region.wanted ⟨dst,.call ⟨.invoke f n,args,tys⟩,ty,pos,after,guard⟩ (yielded ops a.tmps)=true)
  {t:TypeId} {v:D} {g:FuncId} {l':List V} (hl:et q.e args.toList=some l') (hf:aR q.e f=some (.d (.ifc t v)))
  (hm:∀ v w,(method (P.types.size+Made.depth) t v n).run P w = .ok (g,v) w)
  (fQ:ny P q.e q.h dst g (.d v::l') q.ws):wG P ops q:=by
 intro σ cx E0 r m L F st a w he hh hg hd next Q hn
 simp only[wpOpIn,ho];rw[if_pos (hw he hg)];obtain⟨qa,eh⟩:=fQ;have dN:Good cx r m L F ⟨q.e,st.heap,st.s⟩ a w:=hg.sub he (fun _ _ h=>h);obtain⟨y,dV,hv⟩:=dN.aR hf;have dM:=Fe dN hl hv;have eh:=eh cx E0 r m L F st a w (#[y]++args.map a.eval) he hh hg (hd _ ho) dM;refine⟨fun _ _=>trivial,?_⟩;rw[Oper.semAt_eq _ _ _ (fun c e=>by cases e),Jk hm qa dV,Oper.uponIn_enter];refine⟨(fun h=>by cases h),(gZ eh).mono ?_⟩;rintro en w' ⟨x,rfl,L',F',dN,pN⟩;exact hn _ L' F' w' (fM x) dN pN
theorem zU{ops:Array Oper}{q:Rec}{dst:Option Nat}{f:Operand}{args:Array Operand}{tys:Array TypeId}{ty:TypeId}{pos:String}{after:Array Edge}{guard:Option (Nat×Bool)}
  (ho:ops[q.idx]?=some ⟨dst,.call ⟨.value f,args,tys⟩,ty,pos,after,guard⟩)
  (hw:∀ {σ:Type} {cx:Cx σ} {r:Option Nat} {m:List Nat} {L:Loc} {F:Nat->Nat} {st:St σ} {a:Act} {w:World},dR q.e st.env->Good cx r m L F st a w->Region.wanted ⟨dst,.call ⟨.value f,args,tys⟩,ty,pos,after,guard⟩ (yielded ops a.tmps)=true)
  {g:FuncId} {Eo:List V} {l':List V} (hl:et q.e args.toList=some l')
  (hf:∀ {σ:Type} {cx:Cx σ} {r:Option Nat} {m:List Nat} {L:Loc} {F:Nat->Nat} {st:St σ} {a:Act} {w:World},dR q.e st.env->Good cx r m L F st a w -> ∃ lc:Array Value,a.eval f = .func (.func g) #[] lc/\aq cx.yv L F w Eo lc.toList)
  (fQ:ny P q.e q.h dst g (l'++Eo) q.ws):wG P ops q:=by
 intro σ cx E0 r m L F st a w he hh hg hd next Q hn
 simp only[wpOpIn,ho];rw[if_pos (hw he hg)];obtain⟨lc,dV,j6⟩:=hf he hg;obtain⟨qa,eh⟩:=fQ;have zd:∃ vs:List Value,aq cx.yv L F w l' (args.toList.map a.eval):=⟨[],by
  have dN:Good cx r m L F ⟨q.e,st.heap,st.s⟩ a w:=hg.sub he (fun _ _ h=>h);exact dN.et hl⟩
 obtain⟨_,zd⟩:=zd;have dM:aq cx.yv L F w (l'++Eo) (args.map a.eval++lc).toList:=by
  simpa using zd.append j6
 have eh:=eh cx E0 r m L F st a w (args.map a.eval++lc) he hh hg (hd _ ho) dM;have bZ:(execOp a.eval ⟨dst,.call ⟨.value f,args,tys⟩,ty,pos,after,guard⟩).run P w = .ok (.enter g (args.map a.eval++lc)) w:=by
  simp[execOp,resolve,Deferred.ofValue,dV,invoke,qa]
 refine⟨fun _ _=>trivial,?_⟩;rw[Oper.semAt_eq _ _ _ (fun c e=>by cases e),bZ,Oper.uponIn_enter];refine⟨(fun h=>by cases h),(gZ eh).mono ?_⟩;rintro en w' ⟨x,rfl,L',F',dN,pN⟩;exact hn _ L' F' w' (fM x) dN pN
theorem Hy{ops:Array Oper}{q:Rec}{o:Oper}(ho:ops[q.idx]?=some o)(De:q.ws=bw o.dst (.d (.tup [])))
  (hw:∀ {σ:Type} {cx:Cx σ} {r:Option Nat} {m:List Nat} {L:Loc} {F:Nat->Nat} {st:St σ} {a:Act} {w:World},dR q.e st.env->Good cx r m L F st a w->Region.wanted o (yielded ops a.tmps)=false):wG P ops q:=by
 intro σ cx E0 r m L F st a w he hh hg hd next Q hn
 simp only[wpOpIn,ho];rw[if_neg (by rw[hw he hg];simp)];refine⟨fun _ _=>trivial,?_⟩;refine hn _ L F w (fM _) ?_ (Tr.refl F w);rw[De];exact hg.bw (x:=undef) (hd o ho) ⟨#[],rfl,rfl⟩
theorem RU(hT:bA P T){ops:Array Oper}{jV:List OT}{made:List Nat}(zg:uT ops.toList jV ops.toList jV=true):∀ (l:List (Oper×OT)) (acc:List Rec),(∀ j p,l[j]?=some p->ops[acc.length+j]?=some p.1/\jV[acc.length+j]?=some p.2) ->
  (∀ k q,acc[k]?=some q->q.idx=k/\Bi P ops jV q)->acc.Pairwise Pr -> ∀ {e:Env} {h:Heap} {K:Env->Heap->Prop},Jr P T made ops.toList l (acc.map Rec.oo) e h K ->
  ∃ (R:List Rec) (eN:Env) (hN:Heap),K eN hN/\tQ R ⟨get e,get h⟩ ⟨get eN,get hN⟩/\R.length=l.length/\(∀ k q,(acc++R)[k]?=some q->q.idx=k/\Bi P ops jV q)/\(acc++R).Pairwise Pr /\ ∀ q∈R,∀ x∈ca q.ws,x∈made
 | [],acc,_,dI,Lk,e,h,K,hk=>⟨[],e,h,hk,rfl,rfl,by simpa using dI,by simpa using Lk,fun q hq=>by cases hq⟩
 | (⟨dst,op,ty,pos,after,guard⟩,⟨ts,mh⟩)::l,acc,hl,dI,Lk,e,h,K,hk=>by
  obtain⟨ho,Pm⟩:=hl 0 (⟨dst,op,ty,pos,after,guard⟩,⟨ts,mh⟩) rfl;simp only[Nat.add_zero]at ho Pm;have lH:∀ j p,l[j]?=some p->ops[acc.length+1+j]?=some p.1/\jV[acc.length+1+j]?=some p.2:=fun j p hp=>by
   have:=hl (j+1) p (by simpa using hp)
   rwa [show acc.length+(j+1)=acc.length+1+j by omega]at this
  rw[On]at hk;rw[oq,gI,js]at hk;generalize Uu:looksAt op e h ts=os at hk;obtain⟨b,lw,MF,G4,mO⟩:=Mv hk;clear hk;have Pj:lw = [] \/ ∃ d v,lw = [.set d v]/\get e d=some v:=G4.imp id fun⟨d,v,h1,h2⟩=>⟨d,v,h1,eC ts e d v h2⟩;have rest:∀ (ws:List Wr),gh ws=true->pI dst ws=true->(∀ x∈ca ws,x∈made)->mw ⟨os,dy ws,ca ws,cT ws⟩ (acc.map Rec.oo) mh=true->tn (ca ws) (acc.map Rec.oo)=true ->
    wG P ops ⟨acc.length,bh ts e,bh os h,os,ws,mh⟩->(bz lw e h fun e h=>bz (tE ws) e h fun e h=>Jr P T made ops.toList l (acc.map Rec.oo ++ [⟨os,dy ws,ca ws,cT ws⟩]) e h K) ->
    ∃ (R:List Rec) (eN:Env) (hN:Heap),K eN hN/\tQ R ⟨get e,get h⟩ ⟨get eN,get hN⟩/\R.length=l.length+1/\(∀ k q,(acc++R)[k]?=some q->q.idx=k/\Bi P ops jV q)/\(acc++R).Pairwise Pr /\ ∀ q∈R,∀ x∈ca q.ws,x∈made:=by
   intro ws MT IZ IX hap uz Tp hk;rw[cO (),cO ()]at hk;have Lg:=Mo (s:=()) (h:=h) Pj;generalize (aL (⟨e,h,()⟩:St Unit) lw)=u6 at hk Lg;have WA:=EJ ws (⟨u6.env,u6.heap,()⟩:St Unit);generalize (aL (⟨u6.env,u6.heap,()⟩:St Unit) (tE ws))=pZ at hk WA;have aaR:(⟨get pZ.env,get pZ.heap⟩:Fs)=cV ⟨get e,get h⟩ ws:=by
    rw[<- Lg];exact WA
   have hq:Bi P ops jV ⟨acc.length,bh ts e,bh os h,os,ws,mh⟩:=
    ⟨⟨_,_,ho,Pm,rfl,jC IZ,fun x v hx=>mP ts e x v hx⟩,fun x v hx=>mP os h x v hx,MT,Tp⟩
   have Te:∀ p∈acc,Pr p ⟨acc.length,bh ts e,bh os h,os,ws,mh⟩:=by
    intro p hp;obtain⟨k,nq,hkp⟩:=List.mem_iff_getElem.1 hp;have WJ:acc[k]?=some p:=by rw[List.getElem?_eq_getElem nq,hkp]
    obtain⟨aaV,W3⟩:=dI k p WJ;have qb:p.oo∈acc.map Rec.oo:=List.mem_map.2 ⟨p,hp,rfl⟩;obtain⟨G5,A1⟩:=xf uz p.oo qb;have G5:=iD G5;have A1:=iD A1;refine⟨by show p.idx<acc.length;omega,fun gN=>?_,G5,A1⟩;have gN:p.idx∈mh:=gN;have ha:=apart_spec (sw hap p.idx gN p.oo (by rw[aaV,List.getElem?_map,WJ];rfl));have a1:=iD ha.1;have a2:=iD ha.2.1;have a3:=iD ha.2.2.1;have a4:=iD ha.2.2.2;obtain⟨po,pt,W2,hpt,acd,G8,S9⟩:=W3.op;obtain⟨o1,t1,S7,Xd,d1,d2,d3⟩:=xj (uU zg acc.length _ _ (by simpa using ho) Pm) p.idx gN;have WW:ops[p.idx]?=some o1:=by simpa using S7
    rw[W2]at WW;cases WW;rw[hpt]at Xd;cases Xd;have yc:∀ {α:Type} {t:xA α} {x:Nat},(∀ v,get t x=some v->False)->get t x=none:=by
     intro α t x hx
     cases hc:get t x with
     | none=>rfl
     | some v=>exact(hx v hc).elim
    refine⟨⟨fun x hx=>?_,fun x hx=>?_,fun x hx kE=>?_,fun x hx kE=>?_,fun x hx=>a4 x hx⟩,⟨fun x hx=>?_,fun x hx=>?_,fun x hx kE=>?_,fun x hx kE=>?_,fun x hx=>G5 x hx⟩⟩
    ·exact yc fun v hv=>d1 x (G8 x hx) (mP ts e x v hv)
    ·exact yc fun v hv=>a3 x hx (mP os h x v hv)
    ·exact d3 x (G8 x hx) (jC IZ x kE)
    ·exact a2 x kE hx
    ·exact yc fun v hv=>d2 x (jC IZ x hx) (S9 x v hv)
    ·exact yc fun v hv=>a1 x hx (W3.hk x v hv)
    ·exact d3 x (G8 x kE) (jC IZ x hx)
    ·exact a2 x hx kE
   have We:∀ k q,(acc ++ [(⟨acc.length,bh ts e,bh os h,os,ws,mh⟩:Rec)])[k]?=some q->q.idx=k/\Bi P ops jV q:=by
    intro k q IU;rcases Nat.lt_trichotomy k acc.length with dh|heq|YV
    ·rw[List.getElem?_append_left dh]at IU
     exact dI k q IU
    ·subst heq
     simp at IU;subst IU;exact⟨rfl,hq⟩
    ·rw[List.getElem?_eq_none (by simp;omega)]at IU
     cases IU
   have aa7:(acc ++ [(⟨acc.length,bh ts e,bh os h,os,ws,mh⟩:Rec)]).Pairwise Pr:=
    List.pairwise_append.2 ⟨Lk,List.pairwise_singleton _ _,fun x hx y hy=>by
     rcases List.mem_singleton.1 hy with rfl;exact Te x hx⟩
   obtain⟨R,eN,hN,k1,k2,k3,k4,k5,k6⟩:=RU hT zg l (acc ++ [⟨acc.length,bh ts e,bh os h,os,ws,mh⟩]) (by simpa using lH) We aa7 (e:=pZ.env) (h:=pZ.heap) (K:=K) (by simpa[Rec.oo]using hk);refine⟨⟨acc.length,bh ts e,bh os h,os,ws,mh⟩::R,eN,hN,k1,⟨⟨fun s v hs=>eC ts e s v hs,fun s v hs=>eC os h s v hs⟩,?_⟩,by simp[k3],?_,?_,?_⟩
   ·rw[<- aaR];exact k2
   ·simpa using k4
   ·simpa using k5
   ·intro q hq x hx
    rcases List.mem_cons.1 hq with rfl|hq
    ·exact IX x hx
    ·exact k6 q hq x hx
  rcases MF with⟨rfl,hk⟩|⟨rfl,hk⟩
  ·
   have fin:∀ (ws:List Wr),wG P ops ⟨acc.length,bh ts e,bh os h,os,ws,mh⟩->(eA (dy ws) fun mo=>eA (ca ws) fun mk=>eA (cT ws) fun xM=>
       gR (nC dst made (acc.map Rec.oo) mh ws ⟨os,mo,mk,xM⟩) (bz lw e h fun e h=>bz (tE ws) e h fun e h=>Jr P T made ops.toList l (acc.map Rec.oo ++ [⟨os,mo,mk,xM⟩]) e h K)) ->
     ∃ (R:List Rec) (eN:Env) (hN:Heap),K eN hN/\tQ R ⟨get e,get h⟩ ⟨get eN,get hN⟩/\R.length=l.length+1/\(∀ k q,(acc++R)[k]?=some q->q.idx=k/\Bi P ops jV q)/\(acc++R).Pairwise Pr /\ ∀ q∈R,∀ x∈ca q.ws,x∈made:=by
    intro ws Tp hk;rw[oq,oq,oq]at hk;obtain⟨hc,hk⟩:=cr hk;unfold nC at hc;split at hc;case h_2=>cases hc
    rename_i c1 c2 c3 c4 c5;exact rest ws c4 c5 (Ck c3) c1 c2 Tp hk
   by_cases eh:∃ c,op = .call c
   ·obtain⟨⟨callee,args,tys⟩,rfl⟩:=eh
    cases callee with
    | builtin bu=>
     obtain⟨ws,hk,fQ⟩:=tW (P:=P) (ty:=ty) (pos:=pos) (after:=after) (guard:=guard) hT hk;exact fin ws (B2 (q:=⟨acc.length,bh ts e,bh os h,os,ws,mh⟩) ho (fun he hg=>mO he hg) fQ (fun c e=>by cases e)) hk
    | invoke f n=>
     have hk:(match aR (bh ts e) f,et (bh ts e) args.toList with
        | some (.d (.ifc t v)),some l'=>Lw P t n fun g=>ga P (bh ts e) (bh os h) dst g (.d v::l') (fun ws=>eA (dy ws) fun mo=>eA (ca ws) fun mk=>eA (cT ws) fun xM=>
       gR (nC dst made (acc.map Rec.oo) mh ws ⟨os,mo,mk,xM⟩) (bz lw e h fun e h=>bz (tE ws) e h fun e h=>Jr P T made ops.toList l (acc.map Rec.oo ++ [⟨os,mo,mk,xM⟩]) e h K))
        | _,_=>False):=hk
     split at hk;case h_2=>exact hk.elim
     rename_i t v l' hf zd;obtain⟨g,hm,ws,hk,fQ⟩:=hk;exact fin ws (KC (q:=⟨acc.length,bh ts e,bh os h,os,ws,mh⟩) ho (fun he hg=>mO he hg) zd hf hm fQ) hk
    | value f=>
     have hk:(match aR (bh ts e) f,et (bh ts e) args.toList with
        | some (.d (.clo g bc)),some l'=>ga P (bh ts e) (bh os h) dst g (l'++inj bc) (fun ws=>eA (dy ws) fun mo=>eA (ca ws) fun mk=>eA (cT ws) fun xM=>
       gR (nC dst made (acc.map Rec.oo) mh ws ⟨os,mo,mk,xM⟩) (bz lw e h fun e h=>bz (tE ws) e h fun e h=>Jr P T made ops.toList l (acc.map Rec.oo ++ [⟨os,mo,mk,xM⟩]) e h K))
        | some (.clo g bc),some l'=>ga P (bh ts e) (bh os h) dst g (l'++bc) (fun ws=>eA (dy ws) fun mo=>eA (ca ws) fun mk=>eA (cT ws) fun xM=>
       gR (nC dst made (acc.map Rec.oo) mh ws ⟨os,mo,mk,xM⟩) (bz lw e h fun e h=>bz (tE ws) e h fun e h=>Jr P T made ops.toList l (acc.map Rec.oo ++ [⟨os,mo,mk,xM⟩]) e h K))
        | _,_=>False):=hk
     split at hk
     ·rename_i g bc l' hf zd
      obtain⟨ws,hk,fQ⟩:=hk;refine fin ws (zU (q:=⟨acc.length,bh ts e,bh os h,os,ws,mh⟩) ho (fun he hg=>mO he hg) zd (fun {σ cx r m L F st a w} he hg=>?_) fQ) hk;have dN:Good cx r m L F ⟨bh ts e,st.heap,st.s⟩ a w:=hg.sub he (fun _ _ h=>h);obtain⟨lc,dV,j6⟩:=dN.aR hf;exact⟨lc,dV,aq.inj.2 j6⟩
     ·rename_i g bc l' hf zd
      obtain⟨ws,hk,fQ⟩:=hk;refine fin ws (zU (q:=⟨acc.length,bh ts e,bh os h,os,ws,mh⟩) ho (fun he hg=>mO he hg) zd (fun {σ cx r m L F st a w} he hg=>?_) fQ) hk;have dN:Good cx r m L F ⟨bh ts e,st.heap,st.s⟩ a w:=hg.sub he (fun _ _ h=>h);obtain⟨lc,dV,j6⟩:=dN.aR hf;exact⟨lc,dV,j6⟩
     ·exact hk.elim
   ·have hk:gW T (bh ts e) (bh os h) dst op (fun ws=>eA (dy ws) fun mo=>eA (ca ws) fun mk=>eA (cT ws) fun xM=>
       gR (nC dst made (acc.map Rec.oo) mh ws ⟨os,mo,mk,xM⟩) (bz lw e h fun e h=>bz (tE ws) e h fun e h=>Jr P T made ops.toList l (acc.map Rec.oo ++ [⟨os,mo,mk,xM⟩]) e h K)):=by
     cases op<;>first|exact hk|exact absurd ⟨_,rfl⟩ eh
    have vj:∀ c,op ≠ .defer c:=fun c hc=>by subst hc;exact hk
    obtain⟨ws,hk,fQ⟩:=Ds (P:=P) (ty:=ty) (pos:=pos) (after:=after) (guard:=guard) hT hk;exact fin ws (B2 (q:=⟨acc.length,bh ts e,bh os h,os,ws,mh⟩) ho (fun he hg=>mO he hg) fQ vj) hk
  ·obtain⟨hc,hk⟩:=cr hk
   have h0:dy (bw dst (.d (.tup []))) = []/\ca (bw dst (.d (.tup []))) = []/\cT (bw dst (.d (.tup []))) = []/\gh (bw dst (.d (.tup [])))=true/\pI dst (bw dst (.d (.tup [])))=true/\tE (bw dst (.d (.tup [])))=bw dst (.d (.tup [])):=by
    cases dst with
    | none=>simp[bw,dy,ca,cT,gh,pI,tE]
    | some d=>simp[bw,dy,ca,cT,gh,pI,tE,cQ,mB]
   obtain⟨z1,z2,z3,z4,z5,z6⟩:=h0;refine rest (bw dst (.d (.tup []))) z4 z5 (by rw[z2];intro x hx;cases hx) (by rw[z1,z2,z3];exact hc) (by
    rw[z2];have:∀ acc:List OO,tn [] acc=true:=by
     intro acc
     induction acc with
     | nil=>rfl
     | cons p r ih=>simp[tn,mB,ih]
    exact this _) (Hy (q:=⟨acc.length,bh ts e,bh os h,os,bw dst (.d (.tup [])),mh⟩) ho rfl (fun he hg=>mO he hg)) ?_
   rw[z1,z2,z3,z6];exact hk
theorem JI(hm:P.follows .mixedOrders=true)(hT:bA P T){ops:Array Oper}{rt:RT}(ja:zS ops.toList rt=true):Lt P T ops rt:=by
 intro σ cx E0 r m L F e h s a w K hg hd hk id;have Xc:=ja;simp only[zS,Bool.and_eq_true]at Xc;obtain⟨⟨⟨⟨hlen,ur⟩,MB⟩,zg⟩,IX⟩:=Xc;have hlen:=Nat.eq_of_beq_eq_true hlen;obtain⟨e1,h1,L1,hk,dX,hu⟩:=It rt.made (fun d Ws=>by
  have:=List.all_eq_true.1 IX d Ws;exact Nat.le_of_ble_eq_true this) hg hk (fun _=>False) (fun _ h=>h.elim)
 obtain⟨R,eN,hN,k1,k2,k3,k4,k5,k6⟩:=RU hT zg (ops.toList.zip rt.jV) [] (fun j p hp=>by
  have:=List.getElem?_zip_eq_some.1 hp;simpa using this) (fun k q hq=>by simp at hq) List.Pairwise.nil hk
 simp only[List.nil_append]at k4 k5;have hRl:R.length=ops.size:=by rw[k3,List.length_zip,hlen];simp[<- hlen]
 refine wpIn_region_any hm ?_;have QA:Tr F w F { w with drawn:=w.drawn+1 }:=Tr.drew _;refine Lc (cx:=cx) E0 (r:=r) (m:=m) (s:=s) (n0:=a.tmps.size) (F0:=F) (w0:=w) (f':=⟨get eN,get hN⟩) ja hd (fun a' w' L' F' st hf hs dN tr hn=>?_) ops.size (l:=R) (st:=⟨e1,h1,s⟩)
  ⟨k5,fun q hq=>?_,fun q hq=>?_,fun q hq=>?_⟩ (dX.same (w':={ w with drawn:=w.drawn+1 }) rfl rfl rfl rfl) rfl QA rfl (fun q hq x hx=>hu x (.inl (k6 q hq x hx))) k2 (by omega) ⟨fun i=>?_,by simp,fun j o hj=>?_⟩
 ·refine⟨eN,hN,s,L',F',rfl,⟨k1,rfl⟩,?_,tr,hn⟩
  have he:get st.env=get eN:=congrArg Fs.env hf;have hh:get st.heap=get hN:=congrArg Fs.heap hf;have:=dN.sub (e:=eN) (h:=hN) (fun x v hx=>by rw[he];exact hx) (fun x v hx=>by rw[hh];exact hx);rw[hs]at this;exact this
 ·obtain⟨k,nq,IU⟩:=List.mem_iff_getElem.1 hq
  exact(k4 k q (by rw[List.getElem?_eq_getElem nq,IU])).2.snd
 ·obtain⟨k,nq,IU⟩:=List.mem_iff_getElem.1 hq
  exact(k4 k q (by rw[List.getElem?_eq_getElem nq,IU])).2.news
 ·obtain⟨k,nq,IU⟩:=List.mem_iff_getElem.1 hq
  obtain⟨o,t,h1,h2,h3,_⟩:=(k4 k q (by rw[List.getElem?_eq_getElem nq,IU])).2.op;exact⟨t,h2,h3⟩
 ·rw[Array.getD_eq_getD_getElem?,Array.getElem?_replicate]
  constructor
  ·rintro ⟨q,hq,rfl⟩
   obtain⟨k,nq,IU⟩:=List.mem_iff_getElem.1 hq;have:=(k4 k q (by rw[List.getElem?_eq_getElem nq,IU])).1;rw[if_pos (by omega)];rfl
  ·intro hi
   by_cases Pe:i<ops.size
   ·exact⟨R[i],List.getElem_mem ..,(k4 i R[i] (List.getElem?_eq_getElem (by omega))).1⟩
   ·rw[if_neg Pe]at hi;simp at hi
 ·rw[Array.getD_eq_getD_getElem?,Array.getElem?_replicate]at hj
  split at hj<;>cases hj
def jf(ft:FT):Code->Bool
 | .region id ops draw=>match draw with
  | false=>true
  | true=>match get ft.tb id with
   | none=>true
   | some rt=>zS ops.toList rt
 | .seq a b=>jf ft a&&jf ft b
 | .cond _ a b=>jf ft a&&jf ft b
 | .block _ a=>jf ft a
 | .loop a=>jf ft a
 | .scope a=>jf ft a
 | .rangeFunc _ _ a b=>jf ft a&&jf ft b
 | _=>true
theorem aj(hm:P.follows .mixedOrders=true)(hT:bA P T){ft:FT}:∀ {c:Code},jf ft c=true->dr P T ft c
 | .region id ops draw,h=>by
  intro hd rt Rk;subst hd;simp only[jf,Rk]at h;exact JI hm hT h
 | .seq a b,h=>by
  simp only[jf,Bool.and_eq_true]at h;exact⟨aj hm hT h.1,aj hm hT h.2⟩
 | .cond _ a b,h=>by
  simp only[jf,Bool.and_eq_true]at h;exact⟨aj hm hT h.1,aj hm hT h.2⟩
 | .block _ a,h=>aj (c:=a) hm hT h
 | .loop a,h=>aj (c:=a) hm hT h
 | .scope a,h=>aj (c:=a) hm hT h
 | .rangeFunc _ _ a b,h=>by
  simp only[jf,Bool.and_eq_true]at h;exact⟨aj hm hT h.1,aj hm hT h.2⟩
 | .skip,_=>trivial
 | .exit _,_=>trivial
 | .label _,_=>trivial
 | .goto _,_=>trivial
 | .ret,_=>trivial
 | .refuse _,_=>trivial
end
def rm(tmps:Array Value)(r:ResultVar):Sem Value:=
 match r with
 | .tmp t=>pure (tmps.getD t undef)
 | .cell b t=>do loadVar t (<- asAddr (tmps.getD b undef))
theorem HS(fn:Func)(tmps:Array Value):results fn tmps=(do
  let vs <- fn.results.mapM (rm tmps)
  pure (if h:vs.size=1 then vs[0] else .tuple vs)):=rfl
section
variable {P : Program} {T : fA}
theorem v7(hT:bA P T){e:Env}{h:Heap}:∀ {rs:List ResultVar} {K:List V->Prop},FP T e h rs K ->
  ∃ l,K l /\ ∀ {σ:Type} {cx:Cx σ} {r:Option Nat} {m:List Nat} {L:Loc} {F:Nat->Nat} {s:σ} {a:Act} {w:World},Good cx r m L F ⟨e,h,s⟩ a w ->
   ∃ aT:List Value,(rs.mapM (rm a.tmps)).run P w = .ok aT w/\aq cx.yv L F w l aT
 | [],K,hk=>⟨[],hk,fun _=>⟨[],by simp,rfl⟩⟩
 | .tmp t::rs,K,hk=>by
  have hk:(match get e t with
   | some v=>FP T e h rs fun l=>K (v::l)
   | none=>False):=hk
  split at hk
  ·rename_i v hv
   obtain⟨l,hl,bZ⟩:=v7 hT hk;refine⟨v::l,hl,fun {σ cx r m L F s a w} hg=>?_⟩;obtain⟨aT,hr,qL⟩:=bZ hg;obtain⟨x,hx,tL⟩:=hg.env t v hv;refine⟨x::aT,?_,x,aT,rfl,tL,qL⟩;simp only[List.mapM_cons,Sem.run_bind,rm,Sem.run_pure,Result.andThen_ok,hr];simp[hx]
  ·exact hk.elim
 | .cell b t::rs,K,hk=>by
  have hk:Fo T e h t (.tmp b) fun v=>FP T e h rs fun l=>K (v::l):=hk;obtain⟨v,hk,WS⟩:=Jb (P:=P) hT hk;obtain⟨l,hl,bZ⟩:=v7 hT hk;refine⟨v::l,hl,fun {σ cx r m L F s a w} hg=>?_⟩;obtain⟨aT,hr,qL⟩:=bZ hg;obtain⟨bb,off,y,hu,hy,E6⟩:=WS cx L F s (a.eval (.tmp b)) w h (fun _ _ h=>h) hg.heap (fun v hv=>hg.aR hv);have Ux:a.tmps.getD b undef = .pointer (some ⟨bb,off,none⟩):=hu;have WY:(rm a.tmps (.cell b t)).run P w = .ok y w:=by simp[rm,Ux,asAddr,hy]
  refine⟨y::aT,?_,y,aT,rfl,E6,qL⟩;simp only[List.mapM_cons,Sem.run_bind,WY,Result.andThen_ok,hr,Sem.run_pure]
theorem kU{fn:Func}{tmps:Array Value}{w:World}{aT:List Value}(h:(fn.results.toList.mapM (rm tmps)).run P w = .ok aT w):(results fn tmps).run P w = .ok (Jj aT) w:=by
 have S4:(fn.results.mapM (rm tmps)).run P w = .ok aT.toArray w:=by
  rw[Array.mapM_eq_mapM_toList];simp only[Sem.run_map,h,Result.andThen_ok]
 rw[HS];simp only[Sem.run_bind,S4,Result.andThen_ok,Sem.run_pure]
 congr 1
 match aT with
 | []=>rfl
 | [x]=>rfl
 | x::y::r=>simp[Jj]
theorem a7.H4{σ:Type}{cx:Cx σ}{L:Loc}{F:Nat->Nat}{h:Heap}{s:σ}{w:World}(hh:a7 cx L F h s w){b:Nat}(hb:w.heap[b]?=some (.deferred (some [])))(hC:¬ cx.C s b) :
  a7 cx L F h s (w.putObj b (.deferred none))/\Tr F w F (w.putObj b (.deferred none)):=by
 have hk:∀ x,x≠b->(w.putObj b (.deferred none)).heap[x]?=w.heap[x]?:=fun x hx=>by
  simp[World.putObj,Array.getElem?_setIfInBounds_ne (Ne.symm hx)]
 have hbb:(w.putObj b (.deferred none)).heap[b]?=some (.deferred none):=by
  simp[World.putObj,Array.getElem?_setIfInBounds,(Array.getElem?_eq_some_iff.1 hb).1]
 have dD:(w.putObj b (.deferred none)).heap.size=w.heap.size:=by simp[World.putObj]
 have tr:Tr F w F (w.putObj b (.deferred none)):=by
  refine⟨rfl,rfl,rfl,by rw[dD];exact Nat.le_refl _,fun _=>Nat.le_refl _,fun x o hx=>?_,fun x en c hx hm=>?_⟩
  ·by_cases he:x=b
   ·subst he;simp[World.cell?,hb,hbb]
   ·exact kj (hk x he)
  ·by_cases he:x=b
   ·subst he;rw[hb]at hm;cases hm
   ·rw[hk x he];exact hm
 have er:∀ id o,get h id=some o->aS L id o->L.ρ id≠b:=by
  intro id o ho iU e;have:=hh.obj id o ho
  cases o with
  | box c=>obtain⟨c',T,hc,_⟩:=this;rw[e,hb]at hc;cases hc
  | arr sz es=>
   obtain⟨_,_,h⟩:=this;rcases h with⟨_,hk⟩|⟨c,T,hc,_⟩
   ·exact iU hk
   ·rw[e,hb]at hc;cases hc
  | map cY=>obtain⟨en,c,hc,_⟩:=this;rw[e,hb]at hc;cases hc
  | iter s n=>have hc:w.heap[L.ρ id]?=_:=this;rw[e,hb]at hc;cases hc
  | buf t s=>obtain⟨_,hc,_⟩:=this;rw[e,hb]at hc;cases hc
  | tb t l=>obtain⟨_,hc,_⟩:=this;rw[e,hb]at hc;cases hc
  | mit v n l u=>obtain⟨_,_,_,hc,_⟩:=this;rw[e,hb]at hc;cases hc
 refine⟨⟨cx.gE hh.hg tr (fun x hx=>hh.fresh x (by rw[<- dD];exact hx)) fun x hx=>⟨hk x (by rintro rfl;exact hC hx),rfl⟩,fun x hx=>by rw[dD];exact hh.hP x hx,fun x hx=>hh.fresh x (by rw[<- dD];exact hx),fun id o ho=>?_,hh.own,hh.inj⟩,tr⟩;exact bU.mono tr id o (fun _ _=>⟨rfl,rfl⟩) ⟨rfl,rfl⟩ (fun iU=>hk _ (er id o ho iU)) (hh.obj id o ho)
theorem lP{σ:Type}{cx:Cx σ}{L:Loc}{F0:Nat->Nat}{w0:World}{h:Heap}{s:σ}{fn:Func}{tmps:Array Value}{R:Ending->World->Prop}:∀ (m:List Nat) {F:Nat->Nat} {w:World},a7 cx L F h s w->Tr F0 w0 F w ->
  (∀ b∈m,w.heap[b]?=some (.deferred (some []))/\¬ cx.C s b)->m.Nodup->(∀ w',a7 cx L F h s w'->Tr F w F w' -> ∃ v,(results fn tmps).run P w' = .ok v w'/\R (.returned v) w') ->
  LeavesInM Fence.wide 0 P fn tmps R (m.map mark) .returning w
 | [],F,w,hh,tr,hm,hn,hR=>by
  simp only[List.map_nil,LeavesInM,LeavesIn];exact hR w hh (Tr.refl F w)
 | b::m,F,w,hh,tr,hm,hn,hR=>by
  obtain⟨hb,hC⟩:=hm b (List.mem_cons_self ..);obtain⟨nn,pN⟩:=hh.H4 hb hC;simp only[List.map_cons,LeavesInM];refine⟨by simp,.inl ⟨b,w.putObj b (.deferred none),rfl,?_,?_⟩⟩
  ·simp[Instr.takeDeferred,Sem.run_bind,getObj,setObj,Sem.run,hb,Result.andThen,World.putObj]
  ·have vj:=List.nodup_cons.1 hn
   refine lP m nn (Tr.trans tr pN) (fun x hx=>?_) vj.2 fun w' h1 h2=>hR w' h1 (Tr.trans pN h2);have Kf:x≠b:=by rintro rfl;exact vj.1 hx
   refine⟨?_,(hm x (List.mem_cons_of_mem _ hx)).2⟩;rw[<- (hm x (List.mem_cons_of_mem _ hx)).1];simp[World.putObj,Array.getElem?_setIfInBounds_ne (Ne.symm Kf)]
def oQ(ft:FT)(fn:Func)(n:Nat):Bool:=
 match fn.body with
 | some c => codeOk fn.ntmps c && jf ft c && Nat.ble fn.ntmps 1000000 && fn.name != "runtime.NumGoroutine" && Nat.ble n fn.ntmps
 | none=>false
theorem mc:∀ {args:List V} {i s:Nat} {v:V},get (dS i args) s=some v -> ∃ k,s=i+k/\args[k]?=some v
 | [],i,s,v,h=>by cases h
 | a::r,i,s,v,h=>by
  simp only[dS,get]at h;split at h
  ·rename_i he
   have:=Nat.eq_of_beq_eq_true he;subst this;cases h;exact⟨0,rfl,rfl⟩
  ·obtain⟨k,rfl,hk⟩:=mc h
   exact⟨k+1,by omega,by simpa using hk⟩
theorem ez(hm:P.follows .mixedOrders=true)(hT:bA P T){σ:Type}{Y:Hd σ}{f:FuncId}{fn:Func}{c:Code}(hf:P.funcs[f]?=some fn)(hb:fn.body=some c){ft:FT}{args:List V}(gL:oQ ft fn args.length=true)
  {h:Heap} {s:σ} {Q:V->Heap->σ->Prop} (hw:Ct P T ft Y.np c ⟨dS 0 args,h,s⟩ (Sk T fn.results.toList Q)):Lu P Y f args h s Q:=by
 unfold oQ at gL;rw[hb]at gL;simp only[Bool.and_eq_true,bne_iff_ne,ne_eq]at gL;obtain⟨⟨⟨⟨BJ,y9⟩,MU⟩,qG⟩,hlen⟩:=gL;have MU:=Nat.le_of_ble_eq_true MU;have hlen:=Nat.le_of_ble_eq_true hlen;refine⟨fun vs w=>by simp[callFunc,hf,qG,hb,Go.mark],fun cx hY L F aT w hh hr=>?_⟩;have Hi:aT.size=args.length:=by simpa using hr.length
 have dD:(aT++Array.replicate (fn.ntmps-aT.size) undef).size=fn.ntmps:=by simp;omega
 refine callsIn_of_wp_marks hf hb trivial ?_;have hg:Good { cx with pρ:=L.ρ,pκ:=L.κ,base:=[] } none [] L F ⟨dS 0 args,h,s⟩ { tmps:=aT++Array.replicate (fn.ntmps-aT.size) undef,defers:=[] } w:=by
  refine⟨⟨hh.hg,hh.hP,hh.fresh,hh.obj,hh.own,hh.inj⟩,fun t v ht=>?_,rfl,(fun b hb=>by cases hb),List.nodup_nil,(fun l hl=>by cases hl),fun _ _=>⟨rfl,rfl⟩,by rw[dD];exact MU⟩;obtain⟨k,hk,hv⟩:=mc ht;rw[Nat.zero_add]at hk;subst hk;obtain⟨x,hx,tL⟩:=hr.get t hv;refine⟨x,?_,tL⟩;have dh:t<aT.size:=by
   have:=(List.getElem?_eq_some_iff.1 hx).1;simpa using this
  rw[Array.getElem?_append_left dh];simpa using hx
 have hY':cC P Y.np { cx with pρ:=L.ρ,pκ:=L.κ,base:=[] }:=by
  refine⟨?_,hY.laid⟩;intro l hl args h s Q hy L' F' aT w nn hr;obtain⟨fn,tmps,xR,body,h1,h2⟩:=hY.yld l hl args h s Q hy L' F' aT w ⟨nn.hg,nn.hP,nn.fresh,nn.obj,nn.own,nn.inj⟩ hr;refine⟨fn,tmps,xR,body,h1,h2.mono ?_⟩;rintro e w' ⟨x,he,v,h',s',Lx,Ij,hq,eX,rest⟩;exact⟨x,he,v,h',s',Lx,Ij,hq,⟨eX.hg,eX.hP,eX.fresh,eX.obj,eX.own,eX.inj⟩,rest⟩
 have Ty:=eD hT c (aj hm hT y9) ⟨dS 0 args,h,s⟩ _ hw _ hY' none [] L F _ w hg (by rw[dD];exact BJ);have Ty:c.wpIn Fence.wide 0 P _ { tmps:=aT++Array.replicate (fn.ntmps-aT.size) undef,defers:=[] } w:=Ty;refine wpIn_mono Ty fun ex a' w' hq=>?_;rcases hq with⟨e',st',m',L',F',rfl,hk,dN,tr,hs⟩|⟨v,e',h',s',m',L',F',_,hy,_⟩
 case inr=>exact hy.elim
 have fin:Sk T fn.results.toList Q .normal st'->LeavesInM Fence.wide 0 P fn a'.tmps (fun e w'=>∃ x,e = .returned x /\ ∃ v h' s' L' F',Q v h' s'/\a7 cx L' F' h' s' w'/\br cx.yv L' F' w' v x/\Tr F w F' w'/\nz L L') a'.defers .returning w':=by
  intro hk;rw[dN.tZ,List.append_nil];refine lP m' dN.heap tr dN.pB dN.xe fun xP eX xO=>?_;obtain⟨e1,h1,s1⟩:=st';have hk:FP T e1 h1 fn.results.toList fun l=>p9 l h1 s1 Q:=hk;obtain⟨l,⟨Hb⟩,bZ⟩:=v7 (P:=P) hT hk;have GZ:Good { cx with pρ:=L.ρ,pκ:=L.κ,base:=[] } none [] L' F' ⟨e1,h1,s1⟩ { a' with defers:=[] } xP:=by
   refine⟨eX,fun t v ht=>?_,rfl,(fun b hb=>by cases hb),List.nodup_nil,(fun l hl=>by cases hl),dN.jF,dN.ve⟩;obtain⟨x,hx,tL⟩:=dN.env t v ht;exact⟨x,hx,br.mono xO v x (fun _ _=>⟨rfl,rfl⟩) tL⟩
  obtain⟨AD,Da,qL⟩:=bZ GZ;obtain⟨v,h',L2,F2,hq,Pd,D7,AK,KT⟩:=Hb cx L' F' AD xP ⟨eX.hg,eX.hP,eX.fresh,eX.obj,eX.own,eX.inj⟩ qL;refine⟨_,kU Da,_,rfl,v,h',s1,L2,F2,hq,Pd,D7,Tr.trans tr (Tr.trans xO AK),fun i hi=>?_⟩;obtain⟨p1,p2⟩:=KT i hi;obtain⟨p3,p4⟩:=dN.jF i hi;exact⟨p1.trans p3,p2.trans p4⟩
 cases e' with
 | normal=>exact fin hk
 | ret=>exact fin hk
 | exit i=>exact hk.elim
end
def lZ(R:Nat->Nat)(v:V):V:=
 match v with
 | .ptr i off=>.ptr (R i) off
 | .ep i sz k off=>.ep (R i) sz k off
 | .sl i sz off n=>.sl (R i) sz off n
 | .mp i=>.mp (R i)
 | .it i=>.it (R i)
 | v=>v
abbrev oc(R:Nat->Nat)(v:V):V:=aJ (lZ R) v
abbrev sq(R:Nat->Nat)(v:List V):List V:=dz (lZ R) v
abbrev kO(R:Nat->Nat)(o:Obj):Obj:=Obj.aJ (lZ R) o
section
variable {yv : Option Nat} {L L' : Loc} {F : Nat -> Nat} {w : World} {R : Nat -> Nat}
mutual
theorem br.oc:∀ (v:V) (x:Value),(∀ i,iQ v i->L'.ρ (R i)=L.ρ i/\L'.κ (R i)=L.κ i)->(br yv L' F w (aJ (lZ R) v) x↔br yv L F w v x)
 | .d v,_,_=>Iff.rfl
 | .agg cs,x,hn=>by
  constructor
  ·rintro ⟨l,rfl,hl⟩;exact⟨l,rfl,(aq.oc cs _ hn).1 hl⟩
  ·rintro ⟨l,rfl,hl⟩;exact⟨l,rfl,(aq.oc cs _ hn).2 hl⟩
 | .tup cs,x,hn=>by
  constructor
  ·rintro ⟨l,rfl,hl⟩;exact⟨l,rfl,(aq.oc cs _ hn).1 hl⟩
  ·rintro ⟨l,rfl,hl⟩;exact⟨l,rfl,(aq.oc cs _ hn).2 hl⟩
 | .ptr id off,x,hn=>by
  show x = .pointer (some ⟨L'.ρ (R id),off,none⟩)↔x = .pointer (some ⟨L.ρ id,off,none⟩);rw[(hn id rfl).1]
 | .ep id sz k off,x,hn=>by
  show x = .pointer (some ⟨L'.ρ (R id),k*sz+off,none⟩)↔x = .pointer (some ⟨L.ρ id,k*sz+off,none⟩);rw[(hn id rfl).1]
 | .sl id sz off len,x,hn=>by
  show(∃ a cap,x = .slice a len cap/\len<=cap/\0<sz/\((len=0/\cap=0)\/(a=some ⟨L'.ρ (R id),off*sz,none⟩/\(off+cap)*sz<=L'.κ (R id)))) ↔
   (∃ a cap,x = .slice a len cap/\len<=cap/\0<sz/\((len=0/\cap=0)\/(a=some ⟨L.ρ id,off*sz,none⟩/\(off+cap)*sz<=L.κ id)))
  rw[(hn id rfl).1,(hn id rfl).2]
 | .mp id,x,hn=>by
  show x = .map (some (L'.ρ (R id)))↔x = .map (some (L.ρ id));rw[(hn id rfl).1]
 | .it id,x,hn=>by
  show x = .pointer (some ⟨L'.ρ (R id),0,none⟩)↔x = .pointer (some ⟨L.ρ id,0,none⟩);rw[(hn id rfl).1]
 | .clo f cs,x,hn=>by
  constructor
  ·rintro ⟨l,rfl,hl⟩;exact⟨l,rfl,(aq.oc cs _ hn).1 hl⟩
  ·rintro ⟨l,rfl,hl⟩;exact⟨l,rfl,(aq.oc cs _ hn).2 hl⟩
 | .yld,_,_=>Iff.rfl
 | .unk,_,_=>Iff.rfl
theorem aq.oc:∀ (vs:List V) (l:List Value),(∀ i,cm vs i->L'.ρ (R i)=L.ρ i/\L'.κ (R i)=L.κ i)->(aq yv L' F w (dz (lZ R) vs) l↔aq yv L F w vs l)
 | [],_,_=>Iff.rfl
 | v::r,l,hn=>by
  simp only[dz,aq];constructor
  ·rintro ⟨x,l',rfl,hv,hl⟩;exact⟨x,l',rfl,(br.oc v x fun i hi=>hn i (.inl hi)).1 hv,(aq.oc r l' fun i hi=>hn i (.inr hi)).1 hl⟩
  ·rintro ⟨x,l',rfl,hv,hl⟩;exact⟨x,l',rfl,(br.oc v x fun i hi=>hn i (.inl hi)).2 hv,(aq.oc r l' fun i hi=>hn i (.inr hi)).2 hl⟩
end
theorem xK{f:V->V}{sz:Nat}{l:List (List V)}:dE sz (aX f l)↔dE sz l:=by
 induction l with
 | nil=>exact Iff.rfl
 | cons e r ih=>
  simp only[aX,dE,List.forall_mem_cons,kF];exact and_congr Iff.rfl ih
theorem Ft{f:V->V}{l:List (List V)}:aX f l = []↔l = []:=by cases l<;>simp[aX]
theorem bU.oc(id:Nat)(o:Obj)(hn:∀ i,mW o i->L'.ρ (R i)=L.ρ i/\L'.κ (R i)=L.κ i){pz:Nat}(hid:L'.ρ pz=L.ρ id/\L'.κ pz=L.κ id) :
  bU yv L' F w pz (kO R o)↔bU yv L F w id o:=by
 cases o with
 | box c=>
  cases c with
  | dd l=>
   simp only[bU,Obj.aJ,hid.1,Cells.bJ,aq.inj]
  | vv l=>
   simp only[bU,Obj.aJ,hid.1,Cells.bJ];refine exists_congr fun c=>exists_congr fun T=>and_congr Iff.rfl (aq.oc l _ hn)
 | arr sz es=>
  cases es with
  | dd l=>
   simp only[bU,Obj.aJ,hid.1,hid.2,bx.bJ,eG,aq.inj]
  | vv l=>
   simp only[bU,Obj.aJ,hid.1,hid.2,bx.bJ];rw[xK,Ft,ik,gF];refine and_congr Iff.rfl (and_congr Iff.rfl (or_congr Iff.rfl ?_));refine exists_congr fun c=>exists_congr fun T=>and_congr Iff.rfl (and_congr Iff.rfl (and_congr Iff.rfl (aq.oc l.flatten _ hn)))
 | map cY=>simp only[bU,Obj.aJ,hid.1]
 | iter s n=>simp only[bU,Obj.aJ,hid.1]
 | buf t s=>simp only[bU,Obj.aJ,hid.1,hid.2]
 | tb t l=>
  simp only[bU,Obj.aJ,hid.1];refine exists_congr fun c=>and_congr Iff.rfl (aq.oc l _ hn)
 | mit v n l u=>
  simp only[bU,Obj.aJ,hid.1];refine exists_congr fun r=>exists_congr fun seen=>and_congr (br.oc v _ hn) Iff.rfl
theorem cE(id:Nat)(o:Obj){pz:Nat}(hk:L'.κ pz=L.κ id):aS L' pz (kO R o)↔aS L id o:=oR hk o
end
def fj(tb:List Nat)(d:Nat)(i:Nat):Nat:=
 match Nat.blt i 1000000 with
 | true=>i
 | false=>match Nat.blt i 2000000 with
  | true=>match tb[i-1000000]? with
   | some k=>k
   | none=>0
  | false=>100000+64*d+(i-2000000)
def dZ:Heap->List Nat
 | []=>[]
 | (i,_)::r=>match Nat.blt i 2000000 with
  | true=>dZ r
  | false=>i::dZ r
def mU(R:Nat->Nat)(h':Heap):Nat->List Nat->List Wr
 | _,[]=>[]
 | i,k::r=>(match get h' i with
  | some o=>.obj k (kO R o)
  | none=>.del k)::mU R h' (i+1) r
def rf(R:Nat->Nat)(h':Heap):List Nat->List Wr
 | []=>[]
 | i::r=>(match get h' i with
  | some o=>.new (R i) (kO R o)
  | none=>.new (R i) (.box (.dd [])))::rf R h' r
def c8(tb:List Nat)(d:Option Nat)(v:V)(h':Heap):List Wr:=
 let R:=fj tb (d.getD 0)
 rf R h' (dZ h')++(mU R h' 1000000 tb++bw d (oc R v))
def nodupB:List Nat->Bool
 | []=>true
 | k::r=>!D8 r k&&nodupB r
def Bk(n:Nat)(nk:List Nat):List Nat->Bool
 | []=>true
 | i::r=>(Nat.ble 1000000 i&&Nat.blt i (1000000+n)||D8 nk i)&&Bk n nk r
def cB:Heap->List Nat
 | []=>[]
 | (i,o)::r=>i::(iq o++cB r)
def jS(R:Nat->Nat)(h:Heap):Nat->List Nat->Heap->Prop
 | _,[],h0=>h0 = []
 | i,k::r,h0=>∃ o h1,h0=(i,o)::h1/\get h k=some (kO R o)/\jS R h (i+1) r h1
def fU(tb:List Nat)(d:Option Nat)(v:V)(h':Heap):Bool:=
 nodupB tb&&Nat.ble (dZ h').length 64&&nodupB (dZ h')&&mB tb ((dZ h').map (fj tb (d.getD 0)))&&Bk tb.length (dZ h') (cB h')&&Bk tb.length (dZ h') (cQ v) &&
  (dZ h').all (fun i=>Nat.blt i 2000064)&&Nat.ble (d.getD 0) 10000&&Nat.ble tb.length 1000&&gh (c8 tb d v h')
def tH(P:Program)(f:FuncId)(args:List V)(h:Heap)(Q:V->Heap->Prop):Prop:=
 ∀ {σ:Type} (Y:Hd σ) (s:σ),Lu P Y f args h s fun v h' s'=>Q v h'/\s'=s
theorem gp:∀ {l:List Nat},nodupB l=true->l.Nodup
 | [],_=>List.nodup_nil
 | k::r,h=>by
  simp only[nodupB,Bool.and_eq_true,Bool.not_eq_true']at h;refine List.nodup_cons.2 ⟨fun hm=>?_,gp h.2⟩;rw[fX.2 hm]at h;cases h.1
theorem sP{n:Nat}{nk:List Nat}:∀ {l:List Nat},Bk n nk l=true -> ∀ i∈l,(1000000<=i/\i<1000000+n)\/i∈nk
 | [],_,i,hi=>by cases hi
 | k::r,h,i,hi=>by
  simp only[Bk,Bool.and_eq_true,Bool.or_eq_true]at h;rcases List.mem_cons.1 hi with rfl|hi
  ·exact h.1.imp (fun h=>⟨Nat.le_of_ble_eq_true h.1,Nat.le_of_ble_eq_true h.2⟩) fX.1
  ·exact sP h.2 i hi
theorem aI:∀ {h:Heap} {i:Nat} {o:Obj},get h i=some o->i∈cB h /\ ∀ x∈iq o,x∈cB h
 | [],i,o,h=>by cases h
 | (k,p)::r,i,o,h=>by
  simp only[get]at h;split at h
  ·rename_i he
   have:=Nat.eq_of_beq_eq_true he;subst this;cases h;exact⟨by simp[cB],fun x hx=>by simp[cB,hx]⟩
  ·obtain⟨h1,h2⟩:=aI h
   exact⟨by simp[cB,h1],fun x hx=>by simp[cB,h2 x hx]⟩
theorem pC:∀ {h:Heap} {i:Nat},i∈dZ h->2000000<=i
 | [],i,h=>by cases h
 | (k,p)::r,i,h=>by
  simp only[dZ]at h;split at h
  ·exact pC h
  ·rename_i hk
   rcases List.mem_cons.1 h with rfl|h
   ·rcases Nat.lt_or_ge i 2000000 with dh|AY
    ·rw[show Nat.blt i 2000000=true from Nat.ble_eq_true_of_le dh]at hk;cases hk
    ·exact AY
   ·exact pC h
theorem o8{tb:List Nat}{d k id:Nat}(hk:tb[k]?=some id)(hl:tb.length<=1000):fj tb d (1000000+k)=id:=by
 have dh:k<tb.length:=(List.getElem?_eq_some_iff.1 hk).1;unfold fj;have h1:Nat.blt (1000000+k) 1000000=false:=by
  rw[Bool.eq_false_iff];intro h;have:=Nat.le_of_ble_eq_true h;omega
 have h2:Nat.blt (1000000+k) 2000000=true:=Nat.ble_eq_true_of_le (by omega);rw[h1,h2];simp only[show 1000000+k-1000000=k by omega,hk]
theorem JC{tb:List Nat}{d i:Nat}(hi:2000000<=i):fj tb d i=100000+64*d+(i-2000000):=by
 unfold fj;have h1:Nat.blt i 1000000=false:=by
  rw[Bool.eq_false_iff];intro h;have:=Nat.le_of_ble_eq_true h;omega
 have h2:Nat.blt i 2000000=false:=by
  rw[Bool.eq_false_iff];intro h;have:=Nat.le_of_ble_eq_true h;omega
 rw[h1,h2]
theorem xa{R:Nat->Nat}{h:Heap}:∀ {tb:List Nat} {b:Nat} {h0:Heap},jS R h b tb h0 -> ∀ i o,get h0 i=some o -> ∃ k id,i=b+k/\tb[k]?=some id/\get h id=some (kO R o)
 | [],b,h0,hl,i,o,hi=>by
  have:h0 = []:=hl;subst this;cases hi
 | id::r,b,h0,hl,i,o,hi=>by
  obtain⟨o',h1,rfl,hg,hl⟩:=hl;simp only[get]at hi;split at hi
  ·rename_i he
   have:=Nat.eq_of_beq_eq_true he;subst this;cases hi;exact⟨0,id,rfl,by simp,hg⟩
  ·obtain⟨k,pz,rfl,hk,dN⟩:=xa hl i o hi
   exact⟨k+1,pz,by omega,by simpa using hk,dN⟩
def sU{σ:Type}(st:St σ):List Nat->St σ
 | []=>st
 | i::r=>sU ⟨dv (aJ (bp i)) st.env,dv (Obj.aJ (bp i)) (cut st.heap i),st.s⟩ r
def BO:List Nat->V->V
 | [],v=>v
 | i::r,v=>BO r (aJ (bp i) v)
def qR:List Nat->Obj->Obj
 | [],v=>v
 | i::r,v=>qR r (Obj.aJ (bp i) v)
theorem QL{σ:Type}:∀ (l:List Nat) (st:St σ),(sU st l).s=st.s
 | [],_=>rfl
 | _::r,st=>by rw[sU,QL r]
theorem tY{σ:Type}:∀ (l:List Nat) (st:St σ) (x:Nat),get (sU st l).env x=(get st.env x).map (BO l)
 | [],st,x=>by cases h:get st.env x<;>simp[sU,BO,h]
 | i::r,st,x=>by
  rw[sU,tY r,bY];cases h:get st.env x<;>simp[BO]
theorem oi{σ:Type}:∀ (l:List Nat) (st:St σ) (x:Nat),get (sU st l).heap x=if x∈l then none else (get st.heap x).map (qR l)
 | [],st,x=>by cases h:get st.heap x<;>simp[sU,qR,h]
 | i::r,st,x=>by
  rw[sU,oi r,bY,e5];by_cases h1:x∈r
  ·simp[h1]
  ·by_cases h2:x=i
   ·simp[h2]
   ·cases h:get st.heap x<;>simp[h1,h2,qR]
theorem Fj:∀ (l:List Nat) (v:V),(∀ i∈l,¬ iQ v i)->BO l v=v
 | [],_,_=>rfl
 | i::r,v,h=>by
  rw[BO,xZ i v (h i (List.mem_cons_self ..))];exact Fj r v fun j hj=>h j (List.mem_cons_of_mem _ hj)
theorem vJ:∀ (l:List Nat) (v:Obj),(∀ i∈l,¬ mW v i)->qR l v=v
 | [],_,_=>rfl
 | i::r,v,h=>by
  rw[qR,Fi i v (h i (List.mem_cons_self ..))];exact vJ r v fun j hj=>h j (List.mem_cons_of_mem _ hj)
section
variable {σ : Type} {cx : Cx σ} {r : Option Nat} {m : List Nat} {L : Loc} {F : Nat -> Nat} {a : Act} {w : World}
theorem Good.sU:∀ (l:List Nat) {st:St σ},Good cx r m L F st a w->Good cx r m L F (sU st l) a w
 | [],st,h=>h
 | i::l,st,h=>by
  have h1:Good cx r m L F ⟨st.env,cut st.heap i,st.s⟩ a w:=h.del i;exact Good.sU l (h1.kill i)
end
theorem zz{e:Env}{h:Heap}(k:Nat){x:Nat}(hx:x=k\/tI ⟨get e,get h⟩ x):tI ⟨get (dv (aJ (bp k)) e),get (dv (Obj.aJ (bp k)) (cut h k))⟩ x:=by
 refine⟨?_,fun t v ht zf=>?_,fun t o ht zf=>?_⟩
 ·show get _ x=none
  rw[bY,e5];split
  ·rfl
  ·rename_i Xp
   have:get h x=none:=(hx.resolve_left Xp).none;rw[this];rfl
 ·simp only[bY]at ht
  cases h1:get e t with
  | none=>simp[h1]at ht
  | some v0=>
   simp[h1]at ht;subst ht;obtain⟨y,h2,rfl,h3⟩:=oF (ya k) v0 x zf;exact(hx.resolve_left h3).env t v0 h1 h2
 ·simp only[bY,e5]at ht
  split at ht
  ·cases ht
  ·cases h1:get h t with
   | none=>simp[h1]at ht
   | some v0=>
    simp[h1]at ht;subst ht;obtain⟨y,h2,rfl,h3⟩:=tk (ya k) v0 x zf;exact(hx.resolve_left h3).heap t v0 h1 h2
theorem Ix{σ:Type}:∀ (l:List Nat) (st:St σ) (B:Nat->Prop),(∀ x,B x->tI (ef st) x) -> ∀ x,x∈l\/B x->tI (ef (sU st l)) x
 | [],st,B,hB,x,hx=>hB x (hx.resolve_left (by simp))
 | i::l,st,B,hB,x,hx=>by
  rw[sU];refine Ix l ⟨dv (aJ (bp i)) st.env,dv (Obj.aJ (bp i)) (cut st.heap i),st.s⟩ (fun y=>y=i\/B y) (fun y hy=>zz i (hy.imp id (hB y))) x ?_;rcases hx with hx|hx
  ·rcases List.mem_cons.1 hx with rfl|hx
   ·exact .inr (.inl rfl)
   ·exact .inl hx
  ·exact .inr (.inr hx)
theorem EI{σ:Type}:∀ (ws:List Wr) (st:St σ),gh ws=true->ef (aL st ws)=cV (ef (sU st (ca ws))) ws
 | [],st,_=>rfl
 | w::r,st,gL=>by
  obtain⟨h1,h2,h3,h4⟩:=xh gL;rw[aL,EI r _ h1,cV]
  congr 1
  have put:∀ (i:Nat) (o:Obj),(∀ x∈ca r,x∉iq o)->(∀ x∈ca r,x≠i) -> ∀ (e:Env) (h:Heap) (s:σ),
    ef (sU (⟨e,put h i o,s⟩:St σ) (ca r))=⟨(ef (sU (⟨e,h,s⟩:St σ) (ca r))).env,fun x=>if x=i then some o else (ef (sU (⟨e,h,s⟩:St σ) (ca r))).heap x⟩:=by
   intro i o ho hi e h s
   ext1
   ·funext x;simp only[ef,tY]
   ·funext x
    simp only[ef,oi,e6];by_cases hx:x=i
    ·subst hx
     rw[if_neg (fun hm=>hi x hm rfl),if_pos rfl,if_pos rfl];simp only[Option.map_some];rw[vJ _ _ fun j hj hn=>ho j hj (eH j o hn)]
    ·simp only[hx,if_false]
  have one:∀ (i:Nat) (o:Obj),(∀ x∈ca r,x∉iq o)->(∀ x∈ca r,x≠i) -> ∀ (e:Env) (h:Heap) (s:σ),
    ef (sU (⟨e,(i,o)::h,s⟩:St σ) (ca r))=⟨(ef (sU (⟨e,h,s⟩:St σ) (ca r))).env,fun x=>if x=i then some o else (ef (sU (⟨e,h,s⟩:St σ) (ca r))).heap x⟩:=by
   intro i o ho hi e h s
   ext1
   ·funext x;simp only[ef,tY]
   ·funext x
    simp only[ef,oi,fW];by_cases hx:x=i
    ·subst hx
     rw[if_neg (fun hm=>hi x hm rfl),if_pos rfl,if_pos rfl];simp only[Option.map_some];rw[vJ _ _ fun j hj hn=>ho j hj (eH j o hn)]
    ·simp only[hx,if_false]
  cases w with
  | set s v=>
   simp only[bV,ca,gU]
   ext1
   ·funext x
    simp only[ef,tY,e6];split
    ·simp only[Option.map_some]
     rw[Fj _ _ fun j hj hn=>h2 j hj (by simp[cT,jy j v hn])]
    ·rfl
   ·funext x;simp only[ef,oi]
  | obj i o=>
   simp only[bV,ca,gU];exact put i o (fun x hx=>by simpa[cT]using h2 x hx) (fun x hx he=>by obtain⟨_,hd⟩:=h3 x hx (by simp[dy,he]);cases hd) _ _ _
  | new i o=>
   simp only[bV,ca,gU];rw[sU];exact one i o (fun x hx=>by simpa[cT]using h2 x hx) (fun x hx he=>by obtain⟨_,hd⟩:=h3 x hx (by simp[dy,he]);cases hd) _ _ _
  | newq i o=>exact absurd rfl (h4 i o)
  | del i=>
   simp only[bV,ca,gU]
   ext1
   ·funext x;simp only[ef,tY]
   ·funext x
    simp only[ef,oi,e5];by_cases h1:x=i
    ·simp[h1]
    ·simp[h1]
theorem DP(a b:List Wr):ca (a++b)=ca a++ca b:=by
 induction a with
 | nil=>rfl
 | cons w r ih=>cases w<;>simp[ca,ih]
theorem lK(f:Fs)(a b:List Wr):cV f (a++b)=cV (cV f a) b:=by
 induction a generalizing f with
 | nil=>rfl
 | cons w r ih=>simp[cV,ih]
theorem H9(d:Option Nat)(v:V):ca (bw d v) = []:=by cases d<;>rfl
theorem AE(R:Nat->Nat)(h':Heap):∀ (l:List Nat) (i:Nat),ca (mU R h' i l) = []
 | [],_=>rfl
 | k::r,i=>by
  simp only[mU];split<;>simp[ca,AE R h' r]
theorem Cq(R:Nat->Nat)(h':Heap):∀ (l:List Nat),ca (rf R h' l)=l.map R
 | []=>rfl
 | k::r=>by
  simp only[rf];split<;>simp[ca,Cq R h' r]
theorem H8(tb:List Nat)(d:Option Nat)(v:V)(h':Heap):ca (c8 tb d v h')=(dZ h').map (fj tb (d.getD 0)):=by
 simp only[c8,DP,Cq,AE,H9,List.append_nil]
theorem BQ(R:Nat->Nat)(h':Heap):∀ (l:List Nat) (b:Nat) (f:Fs) (x:Nat) (o:Obj),(cV f (mU R h' b l)).heap x=some o ->
  (∃ k o0,l[k]?=some x/\get h' (b+k)=some o0/\o=kO R o0)\/(x∉l/\f.heap x=some o)
 | [],b,f,x,o,h=>.inr ⟨by simp,h⟩
 | k::r,b,f,x,o,h=>by
  simp only[mU,cV]at h;rcases BQ R h' r (b+1) _ x o h with⟨j,o0,h1,h2,h3⟩|⟨h1,h2⟩
  ·exact .inl ⟨j+1,o0,by simpa using h1,by rw[show b+(j+1)=b+1+j by omega];exact h2,h3⟩
  ·by_cases hx:x=k
   ·subst hx
    left;split at h2
    ·rename_i o0 ho
     simp only[gU,if_true,Option.some.injEq]at h2;exact⟨0,o0,by simp,ho,h2.symm⟩
    ·simp[gU]at h2
   ·right
    refine⟨by simp[hx,h1],?_⟩;split at h2
    ·simpa[gU,hx]using h2
    ·simpa[gU,hx]using h2
theorem zD(R:Nat->Nat)(h':Heap):∀ (l:List Nat) (b:Nat) (f:Fs),(cV f (mU R h' b l)).env=f.env
 | [],b,f=>rfl
 | k::r,b,f=>by
  simp only[mU,cV];rw[zD R h' r];split<;>rfl
theorem Fv(R:Nat->Nat)(h':Heap):∀ (l:List Nat) (f:Fs) (x:Nat) (o:Obj),(∀ i∈l,(get h' i).isSome)->(cV f (rf R h' l)).heap x=some o ->
  (∃ i o0,i∈l/\x=R i/\get h' i=some o0/\o=kO R o0)\/(x∉l.map R/\f.heap x=some o)
 | [],f,x,o,_,h=>.inr ⟨by simp,h⟩
 | k::r,f,x,o,hl,h=>by
  simp only[rf,cV]at h;rcases Fv R h' r _ x o (fun i hi=>hl i (List.mem_cons_of_mem _ hi)) h with⟨i,o0,h1,h2,h3⟩|⟨h1,h2⟩
  ·exact .inl ⟨i,o0,List.mem_cons_of_mem _ h1,h2,h3⟩
  ·obtain⟨o0,ho⟩:=Option.isSome_iff_exists.1 (hl k (List.mem_cons_self ..))
   simp only[ho,gU]at h2;by_cases hx:x=R k
   ·subst hx
    simp only[if_true,Option.some.injEq]at h2;exact .inl ⟨k,o0,List.mem_cons_self ..,rfl,ho,h2.symm⟩
   ·exact .inr ⟨by simpa[hx]using h1,by simpa[hx]using h2⟩
theorem Dp(R:Nat->Nat)(h':Heap):∀ (l:List Nat) (f:Fs),(cV f (rf R h' l)).env=f.env
 | [],f=>rfl
 | k::r,f=>by
  simp only[rf,cV];rw[Dp R h' r];split<;>rfl
theorem xg:∀ {h:Heap} {i:Nat},i∈dZ h->(get h i).isSome
 | [],i,h=>by cases h
 | (k,p)::r,i,h=>by
  simp only[get];split
  ·rfl
  ·rename_i hk
   refine xg ?_;simp only[dZ]at h;split at h
   ·exact h
   ·rcases List.mem_cons.1 h with rfl|h
    ·simp at hk
    ·exact h
end Go.PX
