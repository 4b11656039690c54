import Derived.Test.YtgpmlbbkfmkmkaaGreatDoorPxF
import Derived.RangeFuncLeaves
import Derived.RangeFuncRecord
set_option linter.all false
namespace Go.PX
open Go.RowKit
def qhJ(f:V->V)(R:Nat->Nat->Prop):Prop:=∀ v x y,qdE v=some y->qbz (f v) x->R y x
mutual
theorem qdS{f:V->V}{R:Nat->Nat->Prop}(hf:qhJ f R):∀ (v:V) (x:Nat),qbz (mapId f v) x -> ∃ y,qbz v y/\R y x
 | .d _,_,h=>h.elim
 | .agg cs,x,h=>qba hf cs x h
 | .tup cs,x,h=>qba hf cs x h
 | .clo _ cs,x,h=>qba hf cs x h
 | .ptr i off,x,h=>⟨i,rfl,hf _ x i rfl h⟩
 | .ep i sz j off,x,h=>⟨i,rfl,hf _ x i rfl h⟩
 | .sl i sz off len,x,h=>⟨i,rfl,hf _ x i rfl h⟩
 | .mp i,x,h=>⟨i,rfl,hf _ x i rfl h⟩
 | .it i,x,h=>⟨i,rfl,hf _ x i rfl h⟩
 | .yld,_,h=>h.elim
 | .unk,_,h=>h.elim
theorem qba{f:V->V}{R:Nat->Nat->Prop}(hf:qhJ f R):∀ (vs:List V) (x:Nat),zc (zH f vs) x -> ∃ y,zc vs y/\R y x
 | [],_,h=>h.elim
 | v::r,x,h=>by
  rcases h with h|h
  ·obtain⟨y,h1,h2⟩:=qdS hf v x h;exact⟨y,.inl h1,h2⟩
  ·obtain⟨y,h1,h2⟩:=qba hf r x h;exact⟨y,.inr h1,h2⟩
end
theorem qge{f:V->V}{R:Nat->Nat->Prop}(hf:qhJ f R)(o:Obj)(x:Nat)(h:qdK (Obj.mapId f o) x):∃ y,qdK o y/\R y x:=by
 cases o with
 | box c=>cases c with
  | dd l=>exact(jB l x h).elim
  | vv l=>exact qba hf l x h
 | arr sz es=>cases es with
  | dd l=>
   exfalso;have h:zc (ze l).flatten x:=h;rw[zW]at h;exact jB _ x h
  | vv l=>
   have h:zc (qr f l).flatten x:=h;rw[jY]at h;exact qba hf l.flatten x h
 | map kvs=>exact h.elim
 | iter s n=>exact h.elim
 | buf t s=>exact h.elim
 | tb t l=>exact qba hf l x h
 | mit v n l u=>exact qdS hf v x h
theorem qko(k:Nat):qhJ (qz k) fun y x=>x=y/\x≠k:=by
 intro v x y hy h;simp only[qz,hy]at h;split at h
 ·exact h.elim
 ·rename_i hk
  have hxy:x=y:=by
   cases v<;>simp only[qdE,Option.some.injEq]at hy<;>first|(cases hy;done)|skip
   all_goals (subst hy;exact(show _=_ from h).symm)
  subst hxy;exact⟨rfl,by rintro rfl;simp at hk⟩
theorem qrk(i j:Nat):qhJ (jA i j) fun y x=>(y=i/\x=j)\/(y≠i/\x=y):=by
 intro v x y hy h;cases v<;>simp only[qdE,Option.some.injEq]at hy<;>first|(cases hy;done)|skip
 all_goals
  subst hy;simp only[jA]at h;split at h
  ·rename_i hk
   exact .inl ⟨Nat.eq_of_beq_eq_true hk,(show _=_ from h).symm⟩
  ·rename_i hk
   exact .inr ⟨by rintro rfl;simp at hk,(show _=_ from h).symm⟩
mutual
theorem RepV.move{yv:Option Nat}{L L':Loc}{F:Nat->Nat}{w:World}{i j:Nat}(hj:L'.ρ j=L.ρ i/\L'.κ j=L.κ i)(hx:∀ x,x≠j->L'.ρ x=L.ρ x/\L'.κ x=L.κ x):∀ (v:V) (x:Value),¬ qbz v j->RepV yv L F w v x->RepV yv L' F w (mapId (jA i j) v) x
 | .d v,_,_,hr=>hr
 | .agg cs,_,hn,hr=>by
  obtain⟨l,rfl,hl⟩:=hr;exact⟨l,rfl,RepVL.move hj hx cs _ hn hl⟩
 | .tup cs,_,hn,hr=>by
  obtain⟨l,rfl,hl⟩:=hr;exact⟨l,rfl,RepVL.move hj hx cs _ hn hl⟩
 | .ptr id off,x,hn,hr=>by
  have hr:x = .pointer (some ⟨L.ρ id,off,none⟩):=hr;have hid:id≠j:=hn;simp only[mapId,jA];cases h:Nat.beq id i
  ·show x = .pointer (some ⟨L'.ρ id,off,none⟩)
   rw[(hx id hid).1];exact hr
  ·have:=Nat.eq_of_beq_eq_true h;subst this
   show x = .pointer (some ⟨L'.ρ j,off,none⟩);rw[hj.1];exact hr
 | .ep id sz k off,x,hn,hr=>by
  have hr:x = .pointer (some ⟨L.ρ id,k*sz+off,none⟩):=hr;have hid:id≠j:=hn;simp only[mapId,jA];cases h:Nat.beq id i
  ·show x = .pointer (some ⟨L'.ρ id,k*sz+off,none⟩)
   rw[(hx id hid).1];exact hr
  ·have:=Nat.eq_of_beq_eq_true h;subst this
   show x = .pointer (some ⟨L'.ρ j,k*sz+off,none⟩);rw[hj.1];exact hr
 | .sl id sz off len,x,hn,hr=>by
  obtain⟨a,cap,rfl,hl,hs,hc⟩:=hr;have hid:id≠j:=hn;simp only[mapId,jA];cases h:Nat.beq id i
  ·refine⟨a,cap,rfl,hl,hs,?_⟩
   rw[(hx id hid).1,(hx id hid).2];exact hc
  ·have:=Nat.eq_of_beq_eq_true h;subst this
   refine⟨a,cap,rfl,hl,hs,?_⟩;rw[hj.1,hj.2];exact hc
 | .mp id,x,hn,hr=>by
  have hr:x = .map (some (L.ρ id)):=hr;have hid:id≠j:=hn;simp only[mapId,jA];cases h:Nat.beq id i
  ·show x = .map (some (L'.ρ id))
   rw[(hx id hid).1];exact hr
  ·have:=Nat.eq_of_beq_eq_true h;subst this
   show x = .map (some (L'.ρ j));rw[hj.1];exact hr
 | .it id,x,hn,hr=>by
  have hr:x = .pointer (some ⟨L.ρ id,0,none⟩):=hr;have hid:id≠j:=hn;simp only[mapId,jA];cases h:Nat.beq id i
  ·show x = .pointer (some ⟨L'.ρ id,0,none⟩)
   rw[(hx id hid).1];exact hr
  ·have:=Nat.eq_of_beq_eq_true h;subst this
   show x = .pointer (some ⟨L'.ρ j,0,none⟩);rw[hj.1];exact hr
 | .clo f cs,_,hn,hr=>by
  obtain⟨l,rfl,hl⟩:=hr;exact⟨l,rfl,RepVL.move hj hx cs _ hn hl⟩
 | .yld,_,_,hr=>hr
 | .unk,_,_,hr=>hr
theorem RepVL.move{yv:Option Nat}{L L':Loc}{F:Nat->Nat}{w:World}{i j:Nat}(hj:L'.ρ j=L.ρ i/\L'.κ j=L.κ i)(hx:∀ x,x≠j->L'.ρ x=L.ρ x/\L'.κ x=L.κ x):∀ (vs:List V) (l:List Value),¬ zc vs j->RepVL yv L F w vs l->RepVL yv L' F w (zH (jA i j) vs) l
 | [],_,_,hr=>hr
 | v::r,_,hn,hr=>by
  simp only[zc,not_or]at hn;obtain⟨x,l',rfl,hv,hl⟩:=hr;exact⟨x,l',rfl,RepV.move hj hx v x hn.1 hv,RepVL.move hj hx r l' hn.2 hl⟩
end
section
variable {yv : Option Nat} {L L' : Loc} {F : Nat -> Nat} {w : World} {i j : Nat}
theorem RepO.move(hj:L'.ρ j=L.ρ i/\L'.κ j=L.κ i)(hx:∀ x,x≠j->L'.ρ x=L.ρ x/\L'.κ x=L.κ x){id id':Nat}(hid:L'.ρ id'=L.ρ id/\L'.κ id'=L.κ id)(o:Obj)(hn:¬ qdK o j)
  (h:RepO yv L F w id o):RepO yv L' F w id' (Obj.mapId (jA i j) o):=by
 cases o with
 | box c=>
  cases c with
  | dd l=>
   obtain⟨c,T,hc,hr⟩:=h;exact⟨c,T,by rw[hid.1];exact hc,RepVL.inj.2 (RepVL.inj.1 hr)⟩
  | vv l=>
   obtain⟨c,T,hc,hr⟩:=h;exact⟨c,T,by rw[hid.1];exact hc,RepVL.move hj hx _ _ hn hr⟩
 | arr sz es=>
  cases es with
  | dd l=>
   obtain⟨hs,hl,h⟩:=h;refine⟨hs,hl,?_⟩;rcases h with⟨h,hk⟩|⟨c,T,hc,hk,hl',hr⟩
   ·exact .inl ⟨h,by rw[hid.2];exact hk⟩
   ·refine .inr ⟨c,T,by rw[hid.1];exact hc,by rw[hid.2];exact hk,hl',?_⟩
    have hr:RepVL yv L F w (ze l).flatten _:=hr;show RepVL yv L' F w (ze l).flatten _;rw[zW]at hr ⊢;exact RepVL.inj.2 (RepVL.inj.1 hr)
  | vv l=>
   obtain⟨hs,hl,h⟩:=h;refine⟨hs,?_,?_⟩
   ·intro e he
    obtain⟨e0,h0,rfl⟩:=qhs _ _ _ he;rw[qbD];exact hl e0 h0
   ·rcases h with⟨h,hk⟩|⟨c,T,hc,hk,hl',hr⟩
    ·left
     have h:l = []:=h;subst h;exact⟨rfl,by rw[hid.2];exact hk⟩
    ·right
     refine⟨c,T,by rw[hid.1];exact hc,by rw[hid.2];exact hk,?_,?_⟩
     ·show(qr _ l).length*sz<=_
      rw[qao];exact hl'
     ·show RepVL yv L' F w (qr _ l).flatten (c.toList.take ((qr _ l).length*sz))
      rw[qao,jY];exact RepVL.move hj hx _ _ hn hr
 | map kvs=>obtain⟨en,c,hc,hr⟩:=h;exact⟨en,c,by rw[hid.1];exact hc,hr⟩
 | iter s n=>
  show w.heap[L'.ρ id']?=_;rw[hid.1];exact h
 | buf t s=>
  obtain⟨c,h1,h2,h3⟩:=h;exact⟨c,by rw[hid.1];exact h1,by rw[hid.2];exact h2,h3⟩
 | tb t l=>
  obtain⟨c,hc,hr⟩:=h;exact⟨c,by rw[hid.1];exact hc,RepVL.move hj hx _ _ hn hr⟩
 | mit v n l u=>
  obtain⟨r,seen,h1,h2,h3⟩:=h;exact⟨r,seen,RepV.move hj hx _ _ hn h1,by rw[hid.1];exact h2,h3⟩
theorem qeg{f:V->V}{id id':Nat}(hk:L'.κ id'=L.κ id)(o:Obj):Backed L' id' (Obj.mapId f o)↔Backed L id o:=by
 cases o with
 | box c=>cases c<;>exact Iff.rfl
 | arr sz es=>cases es<;>simp[Obj.mapId,Backed,hk]
 | map kvs=>exact Iff.rfl
 | iter s n=>exact Iff.rfl
 | buf t s=>exact Iff.rfl
 | tb t l=>exact Iff.rfl
 | mit v n l u=>exact Iff.rfl
theorem qfn(h:Heap)(hj:get h j=none)(x:Nat):get (qfe i j h) x=if x=j then (get h i).map (Obj.mapId (jA i j)) else if x=i then none else (get h x).map (Obj.mapId (jA i j)):=by
 induction h with
 | nil=>simp[qfe,get]
 | cons kv r ih=>
  obtain⟨k,o⟩:=kv;have hkj:k≠j:=by rintro rfl;simp[get]at hj
  have hkj':Nat.beq k j=false:=by rw[Bool.eq_false_iff];exact fun e=>hkj (Nat.eq_of_beq_eq_true e)
  have hj':get r j=none:=by simpa[get,hkj']using hj
  simp only[qfe]
  cases hk:Nat.beq k i with
  | true=>
   have:=Nat.eq_of_beq_eq_true hk;subst this;simp only[get];by_cases hx:x=j
   ·subst hx;simp
   ·have hjx:Nat.beq j x=false:=by rw[Bool.eq_false_iff];exact fun e=>hx (Nat.eq_of_beq_eq_true e).symm
    simp only[hjx,ih hj',hx,if_false];by_cases hxk:x=k
    ·subst hxk;simp
    ·have:Nat.beq k x=false:=by rw[Bool.eq_false_iff];exact fun e=>hxk (Nat.eq_of_beq_eq_true e).symm
     simp[hxk,this]
  | false=>
   have hki:k≠i:=by rintro rfl;simp at hk
   simp only[get]
   cases hkx:Nat.beq k x with
   | true=>
    have:=Nat.eq_of_beq_eq_true hkx;subst this;simp[hkj,hki]
   | false=>simp only[ih hj',hk]
end
section
variable {σ : Type} {cx : Cx σ} {r : Option Nat} {m : List Nat} {L : Loc} {F : Nat -> Nat} {a : Act} {w : World} {e : Env} {h : Heap} {s : σ}
theorem Good.kill(hh:Good cx r m L F ⟨e,h,s⟩ a w)(d:Nat):Good cx r m L F ⟨jT (mapId (qz d)) e,jT (Obj.mapId (qz d)) h,s⟩ a w:=by
 have hg:∀ i o',get (jT (Obj.mapId (qz d)) h) i=some o' -> ∃ o0,get h i=some o0/\o'=Obj.mapId (qz d) o0:=by
  intro i o' hi;rw[qQ]at hi
  cases h0:get h i with
  | none=>simp[h0]at hi
  | some o0=>simp[h0]at hi;exact⟨o0,rfl,hi.symm⟩
 refine⟨⟨hh.heap.hg,hh.heap.csz,hh.heap.fresh,?_,?_,?_⟩,?_,hh.dfr,hh.mks,hh.mnd,hh.lk,hh.pin,hh.tsz⟩
 ·intro i o' hi
  obtain⟨o0,h0,rfl⟩:=hg i o' hi;exact RepO.kill d i o0 (hh.heap.obj i o0 h0)
 ·intro i o' hi hb
  obtain⟨o0,h0,rfl⟩:=hg i o' hi;exact hh.heap.own i o0 h0 ((jr L d i o0).1 hb)
 ·intro i j o' p hi hj hbi hbj he
  obtain⟨o0,h0,rfl⟩:=hg i o' hi;obtain⟨p0,hp0,rfl⟩:=hg j p hj;exact hh.heap.inj i j o0 p0 h0 hp0 ((jr L d i o0).1 hbi) ((jr L d j p0).1 hbj) he
 ·intro t v ht
  simp only[qQ]at ht
  cases h0:get e t with
  | none=>simp[h0]at ht
  | some v0=>
   simp[h0]at ht;subst ht;obtain⟨x,hx,hr⟩:=hh.env t v0 h0;exact⟨x,hx,RepV.kill d v0 x hr⟩
theorem Good.move(hh:Good cx r m L F ⟨e,h,s⟩ a w){i j:Nat}(hpj:¬ pinned j)(hij:i≠j)(hu:Unn ⟨get e,get h⟩ j) :
  Good cx r m ⟨fun x=>if x=j then L.ρ i else L.ρ x,fun x=>if x=j then L.κ i else L.κ x⟩ F ⟨jT (mapId (jA i j)) e,qfe i j h,s⟩ a w:=by
 have hj:((⟨fun x=>if x=j then L.ρ i else L.ρ x,fun x=>if x=j then L.κ i else L.κ x⟩:Loc).ρ j=L.ρ i/\(⟨fun x=>if x=j then L.ρ i else L.ρ x,fun x=>if x=j then L.κ i else L.κ x⟩:Loc).κ j=L.κ i):=by simp
 have hx:∀ x,x≠j->((⟨fun x=>if x=j then L.ρ i else L.ρ x,fun x=>if x=j then L.κ i else L.κ x⟩:Loc).ρ x=L.ρ x/\(⟨fun x=>if x=j then L.ρ i else L.ρ x,fun x=>if x=j then L.κ i else L.κ x⟩:Loc).κ x=L.κ x):=by
  intro x hx;simp[hx]
 generalize (⟨fun x=>if x=j then L.ρ i else L.ρ x,fun x=>if x=j then L.κ i else L.κ x⟩:Loc)=L' at hj hx ⊢;have hg:∀ x o',get (qfe i j h) x=some o' -> ∃ y o0,get h y=some o0/\o'=Obj.mapId (jA i j) o0/\(L'.ρ x=L.ρ y/\L'.κ x=L.κ y)/\((x=j/\y=i)\/(x≠j/\x≠i/\y=x)):=by
  intro x o' hi;rw[qfn h hu.none]at hi;split at hi
  ·rename_i e1;subst e1
   cases h0:get h i with
   | none=>simp[h0]at hi
   | some o0=>simp[h0]at hi;exact⟨i,o0,h0,hi.symm,hj,.inl ⟨rfl,rfl⟩⟩
  ·rename_i e1
   split at hi
   ·cases hi
   ·rename_i e2
    cases h0:get h x with
    | none=>simp[h0]at hi
    | some o0=>simp[h0]at hi;exact⟨x,o0,h0,hi.symm,hx x e1,.inr ⟨e1,e2,rfl⟩⟩
 refine⟨⟨hh.heap.hg,hh.heap.csz,hh.heap.fresh,?_,?_,?_⟩,?_,hh.dfr,hh.mks,hh.mnd,hh.lk,fun x hp=>by
  have hxj:x≠j:=by rintro rfl;exact hpj hp
  rw[(hx x hxj).1,(hx x hxj).2];exact hh.pin x hp,hh.tsz⟩
 ·intro x o' hi
  obtain⟨y,o0,h0,rfl,hl,_⟩:=hg x o' hi;exact RepO.move hj hx hl o0 (hu.heap y o0 h0) (hh.heap.obj y o0 h0)
 ·intro x o' hi hb
  obtain⟨y,o0,h0,rfl,hl,_⟩:=hg x o' hi;rw[hl.1];exact hh.heap.own y o0 h0 ((qeg hl.2 o0).1 hb)
 ·intro x x' o' p hi hj' hbi hbj he
  obtain⟨y,o0,h0,rfl,hl,hy⟩:=hg x o' hi;obtain⟨z,p0,hp0,rfl,hl',hz⟩:=hg x' p hj';rw[hl.1,hl'.1]at he;have:=hh.heap.inj y z o0 p0 h0 hp0 ((qeg hl.2 o0).1 hbi) ((qeg hl'.2 p0).1 hbj) he;rcases hy with⟨rfl,rfl⟩|⟨h1,h2,rfl⟩<;>rcases hz with⟨rfl,rfl⟩|⟨h3,h4,rfl⟩
  ·rfl
  ·exact absurd this.symm h4
  ·exact absurd this h2
  ·exact this
 ·intro t v ht
  simp only[qQ]at ht
  cases h0:get e t with
  | none=>simp[h0]at ht
  | some v0=>
   simp[h0]at ht;subst ht;obtain⟨x,hx',hr⟩:=hh.env t v0 h0;exact⟨x,hx',RepV.move hj hx v0 x (hu.env t v0 h0) hr⟩
theorem qrl{K:Env->Heap->Prop}:∀ (l:List Nat) {L:Loc} {e:Env} {h:Heap},(∀ d∈l,d<500000)->Good cx r m L F ⟨e,h,s⟩ a w->qlj l e h K -> ∀ (B:Nat->Prop),(∀ d,B d->d<500000/\Unn ⟨get e,get h⟩ d) ->
  ∃ e' h' L',K e' h'/\Good cx r m L' F ⟨e',h',s⟩ a w /\ ∀ d,d∈l\/B d->Unn ⟨get e',get h'⟩ d
 | [],L,e,h,_,hg,hk,B,hB=>⟨e,h,L,hk,hg,fun d hd=>(hd.elim (fun h=>by cases h) fun h=>(hB d h).2)⟩
 | d::l,L,e,h,hl,hg,hk,B,hB=>by
  have hd:d<500000:=hl d (List.mem_cons_self ..);have kill:∀ k (e:Env) (h:Heap),(∀ x,Unn ⟨get e,get h⟩ x->Unn ⟨get (jT (mapId (qz k)) e),get (jT (Obj.mapId (qz k)) h)⟩ x) /\
    (get h k=none->Unn ⟨get (jT (mapId (qz k)) e),get (jT (Obj.mapId (qz k)) h)⟩ k):=by
   intro k e h;have hn:∀ x,(get h x=none)->(∀ y,x=y/\x≠k->¬ (∃ s v,get e s=some v/\qbz v y)/\¬ (∃ s v,get h s=some v/\qdK v y))->Unn ⟨get (jT (mapId (qz k)) e),get (jT (Obj.mapId (qz k)) h)⟩ x:=by
    intro x h0 hy;refine⟨by simp[qQ,h0],fun t v ht hnm=>?_,fun t o ht hnm=>?_⟩
    ·simp only[qQ]at ht
     cases h1:get e t with
     | none=>simp[h1]at ht
     | some v0=>
      simp[h1]at ht;subst ht;obtain⟨y,h2,h3⟩:=qdS (qko k) v0 x hnm;exact(hy y h3).1 ⟨t,v0,h1,h2⟩
    ·simp only[qQ]at ht
     cases h1:get h t with
     | none=>simp[h1]at ht
     | some v0=>
      simp[h1]at ht;subst ht;obtain⟨y,h2,h3⟩:=qge (qko k) v0 x hnm;exact(hy y h3).2 ⟨t,v0,h1,h2⟩
   refine⟨fun x hx=>hn x hx.none fun y hy=>?_,fun h0=>hn k h0 fun y hy=>absurd rfl hy.2⟩;obtain⟨rfl,_⟩:=hy;exact⟨fun⟨t,v,h1,h2⟩=>hx.env t v h1 h2,fun⟨t,v,h1,h2⟩=>hx.heap t v h1 h2⟩
  have next:∀ (e2:Env) (h2:Heap) (L2:Loc),Good cx r m L2 F ⟨e2,h2,s⟩ a w->Unn ⟨get e2,get h2⟩ d->(∀ x,B x->Unn ⟨get e2,get h2⟩ x)->qlj l e2 h2 K ->
    ∃ e' h' L',K e' h'/\Good cx r m L' F ⟨e',h',s⟩ a w /\ ∀ x,x∈d::l\/B x->Unn ⟨get e',get h'⟩ x:=by
   intro e2 h2 L2 hg2 hu2 hB2 hk2;obtain⟨e',h',L',k1,k2,k3⟩:=qrl l (fun x hx=>hl x (List.mem_cons_of_mem _ hx)) hg2 hk2 (fun x=>x=d\/B x) (fun x hx=>by
    rcases hx with rfl|hx
    ·exact⟨hd,hu2⟩
    ·exact⟨(hB x hx).1,hB2 x hx⟩)
   refine⟨e',h',L',k1,k2,fun x hx=>k3 x ?_⟩;rcases hx with hx|hx
   ·rcases List.mem_cons.1 hx with rfl|hx
    ·exact .inr (.inl rfl)
    ·exact .inl hx
   ·exact .inr (.inr hx)
  have hk:(match get h d with
   | none=>jX (jT (mapId (qz d)) e) fun e=>qbi (jT (Obj.mapId (qz d)) h) fun h=>qlj l e h K
   | some _=>jX (jT (mapId (jA d (500000+d))) (jT (mapId (qz (500000+d))) e)) fun e=>
    qbi (qfe d (500000+d) (jT (Obj.mapId (qz (500000+d))) (cut h (500000+d)))) fun h=>qlj l e h K):=hk
  split at hk
  ·rename_i h0
   rw[qap,qaJ]at hk;exact next _ _ L (hg.kill d) ((kill d e h).2 h0) (fun x hx=>(kill d e h).1 x (hB x hx).2) hk
  ·rename_i hk1 _ o0 h0
   clear hk1;rw[qap,qaJ]at hk;have hg1:Good cx r m L F ⟨e,cut h (500000+d),s⟩ a w:=hg.sub (fun _ _ h=>h) fun i o hi=>by
    rw[zZ]at hi;split at hi
    ·cases hi
    ·exact hi
   have hg2:=hg1.kill (500000+d);have hu:=(kill (500000+d) e (cut h (500000+d))).2 (by simp[zZ]);have hB1:∀ x,B x->Unn ⟨get e,get (cut h (500000+d))⟩ x:=fun x hx=>by
    have hu:=(hB x hx).2;have hsub:∀ i o,get (cut h (500000+d)) i=some o->get h i=some o:=fun i o hi=>by
     rw[zZ]at hi;split at hi
     ·cases hi
     ·exact hi
    refine⟨?_,hu.env,fun i o hi=>hu.heap i o (hsub i o hi)⟩
    cases hc:get (cut h (500000+d)) x with
    | none=>exact hc
    | some o=>have h1:=hsub x o hc;have h2:get h x=none:=hu.none;rw[h2]at h1;cases h1
   have hB2:=fun x hx=>(kill (500000+d) e (cut h (500000+d))).1 x (hB1 x hx);generalize jT (mapId (qz (500000+d))) e=e1 at hk hg2 hu hB2;generalize jT (Obj.mapId (qz (500000+d))) (cut h (500000+d))=h1 at hk hg2 hu hB2;have hu3:∀ x,x≠500000+d->(x=d\/Unn ⟨get e1,get h1⟩ x)->Unn ⟨get (jT (mapId (jA d (500000+d))) e1),get (qfe d (500000+d) h1)⟩ x:=by
    intro x hx hor;have hno:∀ y,(y=d/\x=500000+d)\/(y≠d/\x=y)->x≠d/\x=y:=by
     rintro y (⟨_,h⟩|⟨h,rfl⟩)
     ·exact absurd h hx
     ·exact⟨h,rfl⟩
    have hux:x≠d->Unn ⟨get e1,get h1⟩ x:=fun h=>hor.resolve_left h;refine⟨?_,fun t v ht hnm=>?_,fun t o ht hnm=>?_⟩
    ·show get (qfe d (500000+d) h1) x=none
     rw[qfn h1 hu.none,if_neg hx];split
     ·rfl
     ·rename_i hxd
      have:get h1 x=none:=(hux hxd).none;rw[this];rfl
    ·simp only[qQ]at ht
     cases h1':get e1 t with
     | none=>simp[h1']at ht
     | some v0=>
      simp[h1']at ht;subst ht;obtain⟨y,h2,h3⟩:=qdS (qrk d (500000+d)) v0 x hnm;obtain⟨h4,rfl⟩:=hno y h3;exact(hux h4).env t v0 h1' h2
    ·have ht:get (qfe d (500000+d) h1) t=some o:=ht
     rw[qfn h1 hu.none]at ht;have:∃ y o0,get h1 y=some o0/\o=Obj.mapId (jA d (500000+d)) o0:=by
      split at ht
      ·cases h1':get h1 d with
       | none=>simp[h1']at ht
       | some v0=>simp[h1']at ht;exact⟨d,v0,h1',ht.symm⟩
      ·split at ht
       ·cases ht
       ·cases h1':get h1 t with
        | none=>simp[h1']at ht
        | some v0=>simp[h1']at ht;exact⟨t,v0,h1',ht.symm⟩
     obtain⟨z,o0,h1',rfl⟩:=this;obtain⟨y,h2,h3⟩:=qge (qrk d (500000+d)) o0 x hnm;obtain⟨h4,rfl⟩:=hno y h3;exact(hux h4).heap z o0 h1' h2
   have hg3:=hg2.move (i:=d) (j:=500000+d) (by unfold pinned;omega) (by omega) hu;exact next _ _ _ hg3 (hu3 d (by omega) (.inl rfl)) (fun x hx=>hu3 x (by have:=(hB x hx).1;omega) (.inr (hB2 x hx))) hk
end
end Go.PX
namespace Go.PX
open Go.RowKit
structure RecOk(P:Program)(ops:Array Oper)(ots:List OT)(q:Rec):Prop where
 op:∃ o t,ops[q.idx]?=some o/\ots[q.idx]?=some t/\q.prs=t.prs/\(∀ x∈qgd q.ws,o.dst=some x)/\(∀ x v,get q.e x=some v->x∈t.ts)
 hk:∀ x v,get q.h x=some v->x∈q.os
 news:qaw q.ws=true
 snd:qlE P ops q
theorem qpG{a b:OO}(h:apart a b=true):disj a.mo b.os=true/\disj a.mo b.mo=true/\disj b.mo a.os=true/\disj b.nw a.men=true:=by
 unfold apart at h;split at h
 ·rename_i h1 h2 h3 h4;exact⟨h1,h2,h3,h4⟩
 ·cases h
theorem qfo{o:OO}{acc:List OO}:∀ {l:List Nat},qda o acc l=true -> ∀ i∈l,∀ p,acc[i]?=some p->apart o p=true
 | [],_,i,hi,_,_=>by cases hi
 | k::r,h,i,hi,p,hp=>by
  simp only[qda]at h;split at h;case h_2=>cases h
  rename_i p' hp';split at h;case h_2=>cases h
  rename_i hap;rcases List.mem_cons.1 hi with rfl|hi
  ·rw[hp]at hp';cases hp';exact hap
  ·exact qfo h i hi p hp
theorem qhK{mk:List Nat}:∀ {acc:List OO},qhr mk acc=true -> ∀ p∈acc,disj mk p.men=true/\disj mk p.mo=true
 | [],_,p,hp=>by cases hp
 | q::r,h,p,hp=>by
  simp only[qhr]at h;split at h;case h_2=>cases h
  rename_i h1 h2;rcases List.mem_cons.1 hp with rfl|hp
  ·exact⟨h1,h2⟩
  ·exact qhK h p hp
theorem qdk{α:Type}:∀ (l:List Nat) (t:Tab α) (s:Nat) (u:α),get (qM l t) s=some u->s∈l
 | l,[],s,u,h=>by cases h
 | l,(k,v)::r,s,u,h=>by
  simp only[qM]at h;split at h
  ·rename_i hk
   simp only[get]at h;split at h
   ·rename_i he;have:=Nat.eq_of_beq_eq_true he;subst this;exact qbr.1 hk
   ·exact qdk l r s u h
  ·exact qdk l r s u h
theorem qbb{d:Option Nat}:∀ {ws:List Wr},qfd d ws=true -> ∀ x∈qgd ws,d=some x
 | [],_,x,hx=>by cases hx
 | w::r,h,x,hx=>by
  cases w with
  | set s v=>
   simp only[qfd]at h;split at h;case h_2=>cases h
   rename_i k;split at h;case h_2=>cases h
   rename_i hk;simp only[qgd,List.mem_cons]at hx;rcases hx with rfl|hx
   ·rw[Nat.eq_of_beq_eq_true hk]
   ·exact qbb h x hx
  | _=>exact qbb (ws:=r) h x hx
theorem qts{ops:Array Oper}{e:Env}{guard:Option (Nat×Bool)}{X Z:List Wr->Prop}(hk:qex ops.toList e guard X Z) :
  ∃ (b:Bool) (ws:List Wr),((b=true/\X ws)\/(b=false/\Z ws))/\(ws = [] \/ ∃ d v,ws = [.set d v]/\get e d=some v) /\
   ∀ {σ:Type} {cx:Cx σ} {r:Option Nat} {m:List Nat} {L:Loc} {F:Nat->Nat} {st:St σ} {a:Act} {w:World} {dst:Option Nat} {op:Op} {ty:TypeId} {pos:String} {after:Array Edge},
    qaF e st.env->Good cx r m L F st a w->Region.wanted ⟨dst,op,ty,pos,after,guard⟩ (yielded ops a.tmps)=b:=by
 unfold qex at hk;split at hk
 ·exact⟨true,[],.inl ⟨rfl,hk⟩,.inl rfl,fun _ _=>rfl⟩
 ·rename_i j want
  split at hk;case h_2=>exact hk.elim
  rename_i d _ _ _ _ _ hj;have hj':(ops[j]?).bind (·.dst)=some d:=by
   rw[Array.getElem?_toList]at hj;rw[hj];rfl
  split at hk
  ·rename_i b hb
   have hy:∀ {σ:Type} {cx:Cx σ} {r:Option Nat} {m:List Nat} {L:Loc} {F:Nat->Nat} {st:St σ} {a:Act} {w:World},qaF e st.env->Good cx r m L F st a w->yielded ops a.tmps j=some b:=by
    intro σ cx r m L F st a w he hg;obtain⟨x,hx,hr⟩:=hg.env d _ (he _ _ hb);have hr:x = .bool b:=hr;subst hr;unfold yielded;rw[hj'];simp[hx]
   split at hk
   ·rcases qka hk with⟨rfl,hk⟩|⟨rfl,hk⟩
    ·exact⟨true,_,.inl ⟨rfl,hk⟩,.inr ⟨d,_,rfl,hb⟩,fun he hg=>by simp[Region.wanted,hy he hg]⟩
    ·exact⟨false,_,.inr ⟨rfl,hk⟩,.inr ⟨d,_,rfl,hb⟩,fun he hg=>by simp[Region.wanted,hy he hg]⟩
   ·rcases qka hk with⟨rfl,hk⟩|⟨rfl,hk⟩
    ·exact⟨false,_,.inr ⟨rfl,hk⟩,.inr ⟨d,_,rfl,hb⟩,fun he hg=>by simp[Region.wanted,hy he hg]⟩
    ·exact⟨true,_,.inl ⟨rfl,hk⟩,.inr ⟨d,_,rfl,hb⟩,fun he hg=>by simp[Region.wanted,hy he hg]⟩
  ·rename_i hb
   refine⟨false,[],.inr ⟨rfl,hk⟩,.inl rfl,fun {σ cx r m L F st a w} _ _ _ _ _ he hg=>?_⟩;obtain⟨x,hx,l,rfl,hl⟩:=hg.env d _ (he _ _ hb);have hy:yielded ops a.tmps j=none:=by
    unfold yielded;rw[hj'];simp[hx]
   simp[Region.wanted,hy]
  ·exact hk.elim
theorem qtt{σ:Type}{e:Env}{h:Heap}{s:σ}{ws:List Wr}(hw:ws = [] \/ ∃ d v,ws = [.set d v]/\get e d=some v):qaS (qx (⟨e,h,s⟩:St σ) ws)=⟨get e,get h⟩:=by
 rcases hw with rfl|⟨d,v,rfl,hv⟩
 ·rfl
 ·simp only[qaS,qx,zf]
  congr 1
  funext x
  rw[jq];split
  ·rename_i he;subst he;exact hv.symm
  ·rfl
theorem qtu(P:Program)(T:Tys)(made:List Nat)(ops:List Oper)(dst:Option Nat)(op:Op)(ty:TypeId)(pos:String)(after:Array Edge)(guard:Option (Nat×Bool))(ts prs:List Nat)(l:List (Oper×OT))(acc:List OO)(e:Env)(h:Heap)(K:Env->Heap->Prop) :
  wpD P T made ops ((⟨dst,op,ty,pos,after,guard⟩,⟨ts,prs⟩)::l) acc e h K=(jv (qmX op e h ts) fun os=>jX (qM ts e) fun e'=>qbi (qM os h) fun h'=>
    qex ops e' guard
     (fun w=>
      let go:=fun ws=>jv (jj ws) fun mo=>jv (zp ws) fun mk=>jv (zE ws) fun men=>
       chk (qdJ dst made acc prs ws ⟨os,mo,mk,men⟩) (qP w e h fun e h=>qP (qmY ws) e h fun e h=>wpD P T made ops l (acc ++ [⟨os,mo,mk,men⟩]) e h K)
      match op with
      | .call ⟨callee,args,tys⟩=>match callee with
       | .builtin b=>jL T e' h' dst b args tys go
       | .value f=>match opnd e' f,opnds e' args.toList with
        | some (.d (.clo g caps)),some l=>DrawCall P e' h' dst g (l++inj caps) go
        | some (.clo g caps),some l=>DrawCall P e' h' dst g (l++caps) go
        | _,_=>False
       | .invoke f name=>match opnd e' f,opnds e' args.toList with
        | some (.d (.ifc t v)),some l=>InvA P t name fun g=>DrawCall P e' h' dst g (.d v::l) go
        | _,_=>False
      | op=>opK T e' h' dst op go)
     (fun w=>chk (qda ⟨os,[],[],[]⟩ acc prs) (qP w e h fun e h=>qP (wset dst (.d (.tup []))) e h fun e h=>wpD P T made ops l (acc ++ [⟨os,[],[],[]⟩]) e h K))):=rfl
section
variable {P : Program} {T : Tys}
theorem qlI{ops:Array Oper}{q:Rec}{o:Oper}(ho:ops[q.idx]?=some o)
  (hw:∀ {σ:Type} {cx:Cx σ} {r:Option Nat} {m:List Nat} {L:Loc} {F:Nat->Nat} {st:St σ} {a:Act} {w:World},qaF q.e st.env->Good cx r m L F st a w->Region.wanted o (yielded ops a.tmps)=true)
  (hout:Out P q.e q.h o q.ws) (hnd:∀ c,o.op ≠ .defer c):qlE P ops q:=by
 intro σ cx hld r m L F st a w he hh hg hd next Q hn
 simp only[wpOpIn,ho];rw[if_pos (hw he hg)];exact qor hout he hh hg (hd o ho) hnd fun x L' F' w' hg' tr=>hn _ L' F' w' (jO x) hg' tr
theorem qrm{ops:Array Oper}{q:Rec}{dst:Option Nat}{f:Operand}{n:String}{args:Array Operand}{tys:Array TypeId}{ty:TypeId}{pos:String}{after:Array Edge}{guard:Option (Nat×Bool)}
  (ho:ops[q.idx]?=some ⟨dst,.call ⟨.invoke f n,args,tys⟩,ty,pos,after,guard⟩)
  (hw:∀ {σ:Type} {cx:Cx σ} {r:Option Nat} {m:List Nat} {L:Loc} {F:Nat->Nat} {st:St σ} {a:Act} {w:World},qaF q.e st.env->Good cx r m L F st a w->Region.wanted ⟨dst,.call ⟨.invoke f n,args,tys⟩,ty,pos,after,guard⟩ (yielded ops a.tmps)=true)
  {t:TypeId} {v:D} {g:FuncId} {l':List V} (hl:opnds q.e args.toList=some l') (hf:opnd q.e f=some (.d (.ifc t v)))
  (hm:∀ v w,(method (P.types.size+Made.depth) t v n).run P w = .ok (g,v) w)
  (hout:qdH P q.e q.h dst g (.d v::l') q.ws):qlE P ops q:=by
 intro σ cx hld r m L F st a w he hh hg hd next Q hn
 simp only[wpOpIn,ho];rw[if_pos (hw he hg)];obtain⟨hent,hcall⟩:=hout;have hg':Good cx r m L F ⟨q.e,st.heap,st.s⟩ a w:=hg.sub he (fun _ _ h=>h);obtain⟨y,hev,hv⟩:=hg'.opnd hf;have hargs:=qos hg' hl hv;have hcall:=hcall cx hld r m L F st a w (#[y]++args.map a.eval) he hh hg (hd _ ho) hargs;refine⟨fun _ _=>trivial,?_⟩;rw[Oper.semAt_eq _ _ _ (fun c e=>by cases e),qrh hm hent hev,Oper.uponIn_enter];refine⟨(fun h=>by cases h),(qbJ hcall).mono ?_⟩;rintro en w' ⟨x,rfl,L',F',hg',tr'⟩;exact hn _ L' F' w' (jO x) hg' tr'
theorem qji{ops:Array Oper}{q:Rec}{dst:Option Nat}{f:Operand}{args:Array Operand}{tys:Array TypeId}{ty:TypeId}{pos:String}{after:Array Edge}{guard:Option (Nat×Bool)}
  (ho:ops[q.idx]?=some ⟨dst,.call ⟨.value f,args,tys⟩,ty,pos,after,guard⟩)
  (hw:∀ {σ:Type} {cx:Cx σ} {r:Option Nat} {m:List Nat} {L:Loc} {F:Nat->Nat} {st:St σ} {a:Act} {w:World},qaF q.e st.env->Good cx r m L F st a w->Region.wanted ⟨dst,.call ⟨.value f,args,tys⟩,ty,pos,after,guard⟩ (yielded ops a.tmps)=true)
  {g:FuncId} {capv:List V} {l':List V} (hl:opnds q.e args.toList=some l')
  (hf:∀ {σ:Type} {cx:Cx σ} {r:Option Nat} {m:List Nat} {L:Loc} {F:Nat->Nat} {st:St σ} {a:Act} {w:World},qaF q.e st.env->Good cx r m L F st a w -> ∃ lc:Array Value,a.eval f = .func (.func g) #[] lc/\RepVL cx.yv L F w capv lc.toList)
  (hout:qdH P q.e q.h dst g (l'++capv) q.ws):qlE P ops q:=by
 intro σ cx hld r m L F st a w he hh hg hd next Q hn
 simp only[wpOpIn,ho];rw[if_pos (hw he hg)];obtain⟨lc,hev,hcap⟩:=hf he hg;obtain⟨hent,hcall⟩:=hout;have hl1:∃ vs:List Value,RepVL cx.yv L F w l' (args.toList.map a.eval):=⟨[],by
  have hg':Good cx r m L F ⟨q.e,st.heap,st.s⟩ a w:=hg.sub he (fun _ _ h=>h);exact hg'.opnds hl⟩
 obtain⟨_,hl1⟩:=hl1;have hargs:RepVL cx.yv L F w (l'++capv) (args.map a.eval++lc).toList:=by
  simpa using hl1.append hcap
 have hcall:=hcall cx hld r m L F st a w (args.map a.eval++lc) he hh hg (hd _ ho) hargs;have hrun:(execOp a.eval ⟨dst,.call ⟨.value f,args,tys⟩,ty,pos,after,guard⟩).run P w = .ok (.enter g (args.map a.eval++lc)) w:=by
  simp[execOp,resolve,Deferred.ofValue,hev,invoke,hent]
 refine⟨fun _ _=>trivial,?_⟩;rw[Oper.semAt_eq _ _ _ (fun c e=>by cases e),hrun,Oper.uponIn_enter];refine⟨(fun h=>by cases h),(qbJ hcall).mono ?_⟩;rintro en w' ⟨x,rfl,L',F',hg',tr'⟩;exact hn _ L' F' w' (jO x) hg' tr'
theorem qpH{ops:Array Oper}{q:Rec}{o:Oper}(ho:ops[q.idx]?=some o)(hws:q.ws=wset o.dst (.d (.tup [])))
  (hw:∀ {σ:Type} {cx:Cx σ} {r:Option Nat} {m:List Nat} {L:Loc} {F:Nat->Nat} {st:St σ} {a:Act} {w:World},qaF q.e st.env->Good cx r m L F st a w->Region.wanted o (yielded ops a.tmps)=false):qlE P ops q:=by
 intro σ cx hld r m L F st a w he hh hg hd next Q hn
 simp only[wpOpIn,ho];rw[if_neg (by rw[hw he hg];simp)];refine⟨fun _ _=>trivial,?_⟩;refine hn _ L F w (jO _) ?_ (Tr.refl F w);rw[hws];exact hg.wset (x:=undef) (hd o ho) ⟨#[],rfl,rfl⟩
theorem qwz(hT:qU P T){ops:Array Oper}{ots:List OT}{made:List Nat}(hpairs:qhH ops.toList ots ops.toList ots=true):∀ (l:List (Oper×OT)) (acc:List Rec),(∀ j p,l[j]?=some p->ops[acc.length+j]?=some p.1/\ots[acc.length+j]?=some p.2) ->
  (∀ k q,acc[k]?=some q->q.idx=k/\RecOk P ops ots q)->acc.Pairwise Pr -> ∀ {e:Env} {h:Heap} {K:Env->Heap->Prop},wpD P T made ops.toList l (acc.map Rec.oo) e h K ->
  ∃ (R:List Rec) (eN:Env) (hN:Heap),K eN hN/\RunR R ⟨get e,get h⟩ ⟨get eN,get hN⟩/\R.length=l.length/\(∀ k q,(acc++R)[k]?=some q->q.idx=k/\RecOk P ops ots q)/\(acc++R).Pairwise Pr /\ ∀ q∈R,∀ x∈zp q.ws,x∈made
 | [],acc,_,hacc,hpw,e,h,K,hk=>⟨[],e,h,hk,rfl,rfl,by simpa using hacc,by simpa using hpw,fun q hq=>by cases hq⟩
 | (⟨dst,op,ty,pos,after,guard⟩,⟨ts,prs⟩)::l,acc,hl,hacc,hpw,e,h,K,hk=>by
  obtain⟨ho,hot⟩:=hl 0 (⟨dst,op,ty,pos,after,guard⟩,⟨ts,prs⟩) rfl;simp only[Nat.add_zero]at ho hot;have hl':∀ j p,l[j]?=some p->ops[acc.length+1+j]?=some p.1/\ots[acc.length+1+j]?=some p.2:=fun j p hp=>by
   have:=hl (j+1) p (by simpa using hp)
   rwa [show acc.length+(j+1)=acc.length+1+j by omega]at this
  rw[qtu]at hk;rw[qdR,qap,qaJ]at hk;generalize hos:qmX op e h ts=os at hk;obtain⟨b,lw,hcase,hlearn,hwant⟩:=qts hk;clear hk;have hlearn':lw = [] \/ ∃ d v,lw = [.set d v]/\get e d=some v:=hlearn.imp id fun⟨d,v,h1,h2⟩=>⟨d,v,h1,jZ ts e d v h2⟩;have rest:∀ (ws:List Wr),qaw ws=true->qfd dst ws=true->(∀ x∈zp ws,x∈made)->qda ⟨os,jj ws,zp ws,zE ws⟩ (acc.map Rec.oo) prs=true->qhr (zp ws) (acc.map Rec.oo)=true ->
    qlE P ops ⟨acc.length,qM ts e,qM os h,os,ws,prs⟩->(qP lw e h fun e h=>qP (qmY ws) e h fun e h=>wpD P T made ops.toList l (acc.map Rec.oo ++ [⟨os,jj ws,zp ws,zE ws⟩]) e h K) ->
    ∃ (R:List Rec) (eN:Env) (hN:Heap),K eN hN/\RunR R ⟨get e,get h⟩ ⟨get eN,get hN⟩/\R.length=l.length+1/\(∀ k q,(acc++R)[k]?=some q->q.idx=k/\RecOk P ops ots q)/\(acc++R).Pairwise Pr /\ ∀ q∈R,∀ x∈zp q.ws,x∈made:=by
   intro ws hnews hsets hmade hap hnew hsnd hk;rw[zy (),zy ()]at hk;have hfs:=qtt (s:=()) (h:=h) hlearn';generalize (qx (⟨e,h,()⟩:St Unit) lw)=st1 at hk hfs;have hfs2:=qot ws (⟨st1.env,st1.heap,()⟩:St Unit);generalize (qx (⟨st1.env,st1.heap,()⟩:St Unit) (qmY ws))=st2 at hk hfs2;have hfs3:(⟨get st2.env,get st2.heap⟩:Fs)=appFs ⟨get e,get h⟩ ws:=by
    rw[<- hfs];exact hfs2
   have hq:RecOk P ops ots ⟨acc.length,qM ts e,qM os h,os,ws,prs⟩:=
    ⟨⟨_,_,ho,hot,rfl,qbb hsets,fun x v hx=>qdk ts e x v hx⟩,fun x v hx=>qdk os h x v hx,hnews,hsnd⟩
   have hpr:∀ p∈acc,Pr p ⟨acc.length,qM ts e,qM os h,os,ws,prs⟩:=by
    intro p hp;obtain⟨k,hk',hkp⟩:=List.mem_iff_getElem.1 hp;have hkp':acc[k]?=some p:=by rw[List.getElem?_eq_getElem hk',hkp]
    obtain⟨hidx,hpok⟩:=hacc k p hkp';have hmem:p.oo∈acc.map Rec.oo:=List.mem_map.2 ⟨p,hp,rfl⟩;obtain⟨hn1,hn2⟩:=qhK hnew p.oo hmem;have hn1:=qaK hn1;have hn2:=qaK hn2;refine⟨by show p.idx<acc.length;omega,fun hin=>?_,hn1,hn2⟩;have hin:p.idx∈prs:=hin;have ha:=qpG (qfo hap p.idx hin p.oo (by rw[hidx,List.getElem?_map,hkp'];rfl));have a1:=qaK ha.1;have a2:=qaK ha.2.1;have a3:=qaK ha.2.2.1;have a4:=qaK ha.2.2.2;obtain⟨po,pt,hpo,hpt,hpprs,hpsets,hpkeys⟩:=hpok.op;obtain⟨o1,t1,ho1,ht1,d1,d2,d3⟩:=qhI (qgC hpairs acc.length _ _ (by simpa using ho) hot) p.idx hin;have ho1':ops[p.idx]?=some o1:=by simpa using ho1
    rw[hpo]at ho1';cases ho1';rw[hpt]at ht1;cases ht1;have none_of:∀ {α:Type} {t:Tab α} {x:Nat},(∀ v,get t x=some v->False)->get t x=none:=by
     intro α t x hx
     cases hc:get t x with
     | none=>rfl
     | some v=>exact(hx v hc).elim
    refine⟨⟨fun x hx=>?_,fun x hx=>?_,fun x hx hx'=>?_,fun x hx hx'=>?_,fun x hx=>a4 x hx⟩,⟨fun x hx=>?_,fun x hx=>?_,fun x hx hx'=>?_,fun x hx hx'=>?_,fun x hx=>hn1 x hx⟩⟩
    ·exact none_of fun v hv=>d1 x (hpsets x hx) (qdk ts e x v hv)
    ·exact none_of fun v hv=>a3 x hx (qdk os h x v hv)
    ·exact d3 x (hpsets x hx) (qbb hsets x hx')
    ·exact a2 x hx' hx
    ·exact none_of fun v hv=>d2 x (qbb hsets x hx) (hpkeys x v hv)
    ·exact none_of fun v hv=>a1 x hx (hpok.hk x v hv)
    ·exact d3 x (hpsets x hx') (qbb hsets x hx)
    ·exact a2 x hx hx'
   have hacc':∀ k q,(acc ++ [(⟨acc.length,qM ts e,qM os h,os,ws,prs⟩:Rec)])[k]?=some q->q.idx=k/\RecOk P ops ots q:=by
    intro k q hkq;rcases Nat.lt_trichotomy k acc.length with hlt|heq|hgt
    ·rw[List.getElem?_append_left hlt]at hkq
     exact hacc k q hkq
    ·subst heq
     simp at hkq;subst hkq;exact⟨rfl,hq⟩
    ·rw[List.getElem?_eq_none (by simp;omega)]at hkq
     cases hkq
   have hpw':(acc ++ [(⟨acc.length,qM ts e,qM os h,os,ws,prs⟩:Rec)]).Pairwise Pr:=
    List.pairwise_append.2 ⟨hpw,List.pairwise_singleton _ _,fun x hx y hy=>by
     rcases List.mem_singleton.1 hy with rfl;exact hpr x hx⟩
   obtain⟨R,eN,hN,k1,k2,k3,k4,k5,k6⟩:=qwz hT hpairs l (acc ++ [⟨acc.length,qM ts e,qM os h,os,ws,prs⟩]) (by simpa using hl') hacc' hpw' (e:=st2.env) (h:=st2.heap) (K:=K) (by simpa[Rec.oo]using hk);refine⟨⟨acc.length,qM ts e,qM os h,os,ws,prs⟩::R,eN,hN,k1,⟨⟨fun s v hs=>jZ ts e s v hs,fun s v hs=>jZ os h s v hs⟩,?_⟩,by simp[k3],?_,?_,?_⟩
   ·rw[<- hfs3];exact k2
   ·simpa using k4
   ·simpa using k5
   ·intro q hq x hx
    rcases List.mem_cons.1 hq with rfl|hq
    ·exact hmade x hx
    ·exact k6 q hq x hx
  rcases hcase with⟨rfl,hk⟩|⟨rfl,hk⟩
  ·
   have fin:∀ (ws:List Wr),qlE P ops ⟨acc.length,qM ts e,qM os h,os,ws,prs⟩->(jv (jj ws) fun mo=>jv (zp ws) fun mk=>jv (zE ws) fun men=>
       chk (qdJ dst made (acc.map Rec.oo) prs ws ⟨os,mo,mk,men⟩) (qP lw e h fun e h=>qP (qmY ws) e h fun e h=>wpD P T made ops.toList l (acc.map Rec.oo ++ [⟨os,mo,mk,men⟩]) e h K)) ->
     ∃ (R:List Rec) (eN:Env) (hN:Heap),K eN hN/\RunR R ⟨get e,get h⟩ ⟨get eN,get hN⟩/\R.length=l.length+1/\(∀ k q,(acc++R)[k]?=some q->q.idx=k/\RecOk P ops ots q)/\(acc++R).Pairwise Pr /\ ∀ q∈R,∀ x∈zp q.ws,x∈made:=by
    intro ws hsnd hk;rw[qdR,qdR,qdR]at hk;obtain⟨hc,hk⟩:=zw hk;unfold qdJ at hc;split at hc;case h_2=>cases hc
    rename_i c1 c2 c3 c4 c5;exact rest ws c4 c5 (qlC c3) c1 c2 hsnd hk
   by_cases hcall:∃ c,op = .call c
   ·obtain⟨⟨callee,args,tys⟩,rfl⟩:=hcall
    cases callee with
    | builtin bu=>
     obtain⟨ws,hk,hout⟩:=qgA (P:=P) (ty:=ty) (pos:=pos) (after:=after) (guard:=guard) hT hk;exact fin ws (qlI (q:=⟨acc.length,qM ts e,qM os h,os,ws,prs⟩) ho (fun he hg=>hwant he hg) hout (fun c e=>by cases e)) hk
    | invoke f n=>
     have hk:(match opnd (qM ts e) f,opnds (qM ts e) args.toList with
        | some (.d (.ifc t v)),some l'=>InvA P t n fun g=>DrawCall P (qM ts e) (qM os h) dst g (.d v::l') (fun ws=>jv (jj ws) fun mo=>jv (zp ws) fun mk=>jv (zE ws) fun men=>
       chk (qdJ dst made (acc.map Rec.oo) prs ws ⟨os,mo,mk,men⟩) (qP lw e h fun e h=>qP (qmY ws) e h fun e h=>wpD P T made ops.toList l (acc.map Rec.oo ++ [⟨os,mo,mk,men⟩]) e h K))
        | _,_=>False):=hk
     split at hk;case h_2=>exact hk.elim
     rename_i t v l' hf hl1;obtain⟨g,hm,ws,hk,hout⟩:=hk;exact fin ws (qrm (q:=⟨acc.length,qM ts e,qM os h,os,ws,prs⟩) ho (fun he hg=>hwant he hg) hl1 hf hm hout) hk
    | value f=>
     have hk:(match opnd (qM ts e) f,opnds (qM ts e) args.toList with
        | some (.d (.clo g caps)),some l'=>DrawCall P (qM ts e) (qM os h) dst g (l'++inj caps) (fun ws=>jv (jj ws) fun mo=>jv (zp ws) fun mk=>jv (zE ws) fun men=>
       chk (qdJ dst made (acc.map Rec.oo) prs ws ⟨os,mo,mk,men⟩) (qP lw e h fun e h=>qP (qmY ws) e h fun e h=>wpD P T made ops.toList l (acc.map Rec.oo ++ [⟨os,mo,mk,men⟩]) e h K))
        | some (.clo g caps),some l'=>DrawCall P (qM ts e) (qM os h) dst g (l'++caps) (fun ws=>jv (jj ws) fun mo=>jv (zp ws) fun mk=>jv (zE ws) fun men=>
       chk (qdJ dst made (acc.map Rec.oo) prs ws ⟨os,mo,mk,men⟩) (qP lw e h fun e h=>qP (qmY ws) e h fun e h=>wpD P T made ops.toList l (acc.map Rec.oo ++ [⟨os,mo,mk,men⟩]) e h K))
        | _,_=>False):=hk
     split at hk
     ·rename_i g caps l' hf hl1
      obtain⟨ws,hk,hout⟩:=hk;refine fin ws (qji (q:=⟨acc.length,qM ts e,qM os h,os,ws,prs⟩) ho (fun he hg=>hwant he hg) hl1 (fun {σ cx r m L F st a w} he hg=>?_) hout) hk;have hg':Good cx r m L F ⟨qM ts e,st.heap,st.s⟩ a w:=hg.sub he (fun _ _ h=>h);obtain⟨lc,hev,hcap⟩:=hg'.opnd hf;exact⟨lc,hev,RepVL.inj.2 hcap⟩
     ·rename_i g caps l' hf hl1
      obtain⟨ws,hk,hout⟩:=hk;refine fin ws (qji (q:=⟨acc.length,qM ts e,qM os h,os,ws,prs⟩) ho (fun he hg=>hwant he hg) hl1 (fun {σ cx r m L F st a w} he hg=>?_) hout) hk;have hg':Good cx r m L F ⟨qM ts e,st.heap,st.s⟩ a w:=hg.sub he (fun _ _ h=>h);obtain⟨lc,hev,hcap⟩:=hg'.opnd hf;exact⟨lc,hev,hcap⟩
     ·exact hk.elim
   ·have hk:opK T (qM ts e) (qM os h) dst op (fun ws=>jv (jj ws) fun mo=>jv (zp ws) fun mk=>jv (zE ws) fun men=>
       chk (qdJ dst made (acc.map Rec.oo) prs ws ⟨os,mo,mk,men⟩) (qP lw e h fun e h=>qP (qmY ws) e h fun e h=>wpD P T made ops.toList l (acc.map Rec.oo ++ [⟨os,mo,mk,men⟩]) e h K)):=by
     cases op<;>first|exact hk|exact absurd ⟨_,rfl⟩ hcall
    have hnd:∀ c,op ≠ .defer c:=fun c hc=>by subst hc;exact hk
    obtain⟨ws,hk,hout⟩:=qnf (P:=P) (ty:=ty) (pos:=pos) (after:=after) (guard:=guard) hT hk;exact fin ws (qlI (q:=⟨acc.length,qM ts e,qM os h,os,ws,prs⟩) ho (fun he hg=>hwant he hg) hout hnd) hk
  ·obtain⟨hc,hk⟩:=zw hk
   have h0:jj (wset dst (.d (.tup []))) = []/\zp (wset dst (.d (.tup []))) = []/\zE (wset dst (.d (.tup []))) = []/\qaw (wset dst (.d (.tup [])))=true/\qfd dst (wset dst (.d (.tup [])))=true/\qmY (wset dst (.d (.tup [])))=wset dst (.d (.tup [])):=by
    cases dst with
    | none=>simp[wset,jj,zp,zE,qaw,qfd,qmY]
    | some d=>simp[wset,jj,zp,zE,qaw,qfd,qmY,zq,disj]
   obtain⟨z1,z2,z3,z4,z5,z6⟩:=h0;refine rest (wset dst (.d (.tup []))) z4 z5 (by rw[z2];intro x hx;cases hx) (by rw[z1,z2,z3];exact hc) (by
    rw[z2];have:∀ acc:List OO,qhr [] acc=true:=by
     intro acc
     induction acc with
     | nil=>rfl
     | cons p r ih=>simp[qhr,disj,ih]
    exact this _) (qpH (q:=⟨acc.length,qM ts e,qM os h,os,wset dst (.d (.tup [])),prs⟩) ho rfl (fun he hg=>hwant he hg)) ?_
   rw[z1,z2,z3,z6];exact hk
theorem qrn(hm:P.follows .mixedOrders=true)(hT:qU P T){ops:Array Oper}{rt:RT}(hst:qlG ops.toList rt=true):quN P T ops rt:=by
 intro σ cx hld r m L F e h s a w K hg hd hk id;have hst':=hst;simp only[qlG,Bool.and_eq_true]at hst';obtain⟨⟨⟨⟨hlen,hback⟩,hahead⟩,hpairs⟩,hmade⟩:=hst';have hlen:=Nat.eq_of_beq_eq_true hlen;obtain⟨e1,h1,L1,hk,hg1,hu⟩:=qrl rt.made (fun d hd'=>by
  have:=List.all_eq_true.1 hmade d hd';exact Nat.le_of_ble_eq_true this) hg hk (fun _=>False) (fun _ h=>h.elim)
 obtain⟨R,eN,hN,k1,k2,k3,k4,k5,k6⟩:=qwz hT hpairs (ops.toList.zip rt.ots) [] (fun j p hp=>by
  have:=List.getElem?_zip_eq_some.1 hp;simpa using this) (fun k q hq=>by simp at hq) List.Pairwise.nil hk
 simp only[List.nil_append]at k4 k5;have hRl:R.length=ops.size:=by rw[k3,List.length_zip,hlen];simp[<- hlen]
 refine wpIn_region_any hm ?_;have tr0:Tr F w F { w with drawn:=w.drawn+1 }:=Tr.drew _;refine qrj (cx:=cx) hld (r:=r) (m:=m) (s:=s) (n0:=a.tmps.size) (F0:=F) (w0:=w) (f':=⟨get eN,get hN⟩) hst hd (fun a' w' L' F' st hf hs hg' tr hn=>?_) ops.size (l:=R) (st:=⟨e1,h1,s⟩)
  ⟨k5,fun q hq=>?_,fun q hq=>?_,fun q hq=>?_⟩ (hg1.same (w':={ w with drawn:=w.drawn+1 }) rfl rfl rfl rfl) rfl tr0 rfl (fun q hq x hx=>hu x (.inl (k6 q hq x hx))) k2 (by omega) ⟨fun i=>?_,by simp,fun j o hj=>?_⟩
 ·refine⟨eN,hN,s,L',F',rfl,⟨k1,rfl⟩,?_,tr,hn⟩
  have he:get st.env=get eN:=congrArg Fs.env hf;have hh:get st.heap=get hN:=congrArg Fs.heap hf;have:=hg'.sub (e:=eN) (h:=hN) (fun x v hx=>by rw[he];exact hx) (fun x v hx=>by rw[hh];exact hx);rw[hs]at this;exact this
 ·obtain⟨k,hk',hkq⟩:=List.mem_iff_getElem.1 hq
  exact(k4 k q (by rw[List.getElem?_eq_getElem hk',hkq])).2.snd
 ·obtain⟨k,hk',hkq⟩:=List.mem_iff_getElem.1 hq
  exact(k4 k q (by rw[List.getElem?_eq_getElem hk',hkq])).2.news
 ·obtain⟨k,hk',hkq⟩:=List.mem_iff_getElem.1 hq
  obtain⟨o,t,h1,h2,h3,_⟩:=(k4 k q (by rw[List.getElem?_eq_getElem hk',hkq])).2.op;exact⟨t,h2,h3⟩
 ·rw[Array.getD_eq_getD_getElem?,Array.getElem?_replicate]
  constructor
  ·rintro ⟨q,hq,rfl⟩
   obtain⟨k,hk',hkq⟩:=List.mem_iff_getElem.1 hq;have:=(k4 k q (by rw[List.getElem?_eq_getElem hk',hkq])).1;rw[if_pos (by omega)];rfl
  ·intro hi
   by_cases hi':i<ops.size
   ·exact⟨R[i],List.getElem_mem ..,(k4 i R[i] (List.getElem?_eq_getElem (by omega))).1⟩
   ·rw[if_neg hi']at hi;simp at hi
 ·rw[Array.getD_eq_getD_getElem?,Array.getElem?_replicate]at hj
  split at hj<;>cases hj
def qbS(ft:FT):Code->Bool
 | .region id ops draw=>match draw with
  | false=>true
  | true=>match get ft.tb id with
   | none=>true
   | some rt=>qlG ops.toList rt
 | .seq a b=>qbS ft a&&qbS ft b
 | .cond _ a b=>qbS ft a&&qbS ft b
 | .block _ a=>qbS ft a
 | .loop a=>qbS ft a
 | .scope a=>qbS ft a
 | .rangeFunc _ _ a b=>qbS ft a&&qbS ft b
 | _=>true
theorem qg(hm:P.follows .mixedOrders=true)(hT:qU P T){ft:FT}:∀ {c:Code},qbS ft c=true->zS P T ft c
 | .region id ops draw,h=>by
  intro hd rt hrt;subst hd;simp only[qbS,hrt]at h;exact qrn hm hT h
 | .seq a b,h=>by
  simp only[qbS,Bool.and_eq_true]at h;exact⟨qg hm hT h.1,qg hm hT h.2⟩
 | .cond _ a b,h=>by
  simp only[qbS,Bool.and_eq_true]at h;exact⟨qg hm hT h.1,qg hm hT h.2⟩
 | .block _ a,h=>qg (c:=a) hm hT h
 | .loop a,h=>qg (c:=a) hm hT h
 | .scope a,h=>qg (c:=a) hm hT h
 | .rangeFunc _ _ a b,h=>by
  simp only[qbS,Bool.and_eq_true]at h;exact⟨qg hm hT h.1,qg hm hT h.2⟩
 | .skip,_=>trivial
 | .exit _,_=>trivial
 | .label _,_=>trivial
 | .goto _,_=>trivial
 | .ret,_=>trivial
 | .refuse _,_=>trivial
end
def qgD(tmps:Array Value)(r:ResultVar):Sem Value:=
 match r with
 | .tmp t=>pure (tmps.getD t undef)
 | .cell b t=>do loadVar t (<- asAddr (tmps.getD b undef))
theorem qpI(fn:Func)(tmps:Array Value):results fn tmps=(do
  let vs <- fn.results.mapM (qgD tmps)
  pure (if h:vs.size=1 then vs[0] else .tuple vs)):=rfl
section
variable {P : Program} {T : Tys}
theorem qjj(hT:qU P T){e:Env}{h:Heap}:∀ {rs:List ResultVar} {K:List V->Prop},quJ T e h rs K ->
  ∃ l,K l /\ ∀ {σ:Type} {cx:Cx σ} {r:Option Nat} {m:List Nat} {L:Loc} {F:Nat->Nat} {s:σ} {a:Act} {w:World},Good cx r m L F ⟨e,h,s⟩ a w ->
   ∃ vals:List Value,(rs.mapM (qgD a.tmps)).run P w = .ok vals w/\RepVL cx.yv L F w l vals
 | [],K,hk=>⟨[],hk,fun _=>⟨[],by simp,rfl⟩⟩
 | .tmp t::rs,K,hk=>by
  have hk:(match get e t with
   | some v=>quJ T e h rs fun l=>K (v::l)
   | none=>False):=hk
  split at hk
  ·rename_i v hv
   obtain⟨l,hl,hrun⟩:=qjj hT hk;refine⟨v::l,hl,fun {σ cx r m L F s a w} hg=>?_⟩;obtain⟨vals,hr,hrep⟩:=hrun hg;obtain⟨x,hx,hrx⟩:=hg.env t v hv;refine⟨x::vals,?_,x,vals,rfl,hrx,hrep⟩;simp only[List.mapM_cons,Sem.run_bind,qgD,Sem.run_pure,Result.andThen_ok,hr];simp[hx]
  ·exact hk.elim
 | .cell b t::rs,K,hk=>by
  have hk:qqK T e h t (.tmp b) fun v=>quJ T e h rs fun l=>K (v::l):=hk;obtain⟨v,hk,hload⟩:=qqT (P:=P) hT hk;obtain⟨l,hl,hrun⟩:=qjj hT hk;refine⟨v::l,hl,fun {σ cx r m L F s a w} hg=>?_⟩;obtain⟨vals,hr,hrep⟩:=hrun hg;obtain⟨bb,off,y,hu,hy,hry⟩:=hload cx L F s (a.eval (.tmp b)) w h (fun _ _ h=>h) hg.heap (fun v hv=>hg.opnd hv);have hu':a.tmps.getD b undef = .pointer (some ⟨bb,off,none⟩):=hu;have hone:(qgD a.tmps (.cell b t)).run P w = .ok y w:=by simp[qgD,hu',asAddr,hy]
  refine⟨y::vals,?_,y,vals,rfl,hry,hrep⟩;simp only[List.mapM_cons,Sem.run_bind,hone,Result.andThen_ok,hr,Sem.run_pure]
theorem qbT{fn:Func}{tmps:Array Value}{w:World}{vals:List Value}(h:(fn.results.toList.mapM (qgD tmps)).run P w = .ok vals w):(results fn tmps).run P w = .ok (qtf vals) w:=by
 have hmap:(fn.results.mapM (qgD tmps)).run P w = .ok vals.toArray w:=by
  rw[Array.mapM_eq_mapM_toList];simp only[Sem.run_map,h,Result.andThen_ok]
 rw[qpI];simp only[Sem.run_bind,hmap,Result.andThen_ok,Sem.run_pure]
 congr 1
 match vals with
 | []=>rfl
 | [x]=>rfl
 | x::y::r=>simp[qtf]
theorem HeapOk.unmark{σ:Type}{cx:Cx σ}{L:Loc}{F:Nat->Nat}{h:Heap}{s:σ}{w:World}(hh:HeapOk cx L F h s w){b:Nat}(hb:w.heap[b]?=some (.deferred (some [])))(hC:¬ cx.C s b) :
  HeapOk cx L F h s (w.putObj b (.deferred none))/\Tr F w F (w.putObj b (.deferred none)):=by
 have hk:∀ x,x≠b->(w.putObj b (.deferred none)).heap[x]?=w.heap[x]?:=fun x hx=>by
  simp[World.putObj,Array.getElem?_setIfInBounds_ne (Ne.symm hx)]
 have hbb:(w.putObj b (.deferred none)).heap[b]?=some (.deferred none):=by
  simp[World.putObj,Array.getElem?_setIfInBounds,(Array.getElem?_eq_some_iff.1 hb).1]
 have hsz:(w.putObj b (.deferred none)).heap.size=w.heap.size:=by simp[World.putObj]
 have tr:Tr F w F (w.putObj b (.deferred none)):=by
  refine⟨rfl,rfl,rfl,by rw[hsz];exact Nat.le_refl _,fun _=>Nat.le_refl _,fun x o hx=>?_,fun x en c hx hm=>?_⟩
  ·by_cases he:x=b
   ·subst he;simp[World.cell?,hb,hbb]
   ·exact qbN (hk x he)
  ·by_cases he:x=b
   ·subst he;rw[hb]at hm;cases hm
   ·rw[hk x he];exact hm
 have hne:∀ id o,get h id=some o->Backed L id o->L.ρ id≠b:=by
  intro id o ho hbk e;have:=hh.obj id o ho
  cases o with
  | box c=>obtain⟨c',T,hc,_⟩:=this;rw[e,hb]at hc;cases hc
  | arr sz es=>
   obtain⟨_,_,h⟩:=this;rcases h with⟨_,hk⟩|⟨c,T,hc,_⟩
   ·exact hbk hk
   ·rw[e,hb]at hc;cases hc
  | map kvs=>obtain⟨en,c,hc,_⟩:=this;rw[e,hb]at hc;cases hc
  | iter s n=>have hc:w.heap[L.ρ id]?=_:=this;rw[e,hb]at hc;cases hc
  | buf t s=>obtain⟨_,hc,_⟩:=this;rw[e,hb]at hc;cases hc
  | tb t l=>obtain⟨_,hc,_⟩:=this;rw[e,hb]at hc;cases hc
  | mit v n l u=>obtain⟨_,_,_,hc,_⟩:=this;rw[e,hb]at hc;cases hc
 refine⟨⟨cx.stable hh.hg tr (fun x hx=>hh.fresh x (by rw[<- hsz];exact hx)) fun x hx=>⟨hk x (by rintro rfl;exact hC hx),rfl⟩,fun x hx=>by rw[hsz];exact hh.csz x hx,fun x hx=>hh.fresh x (by rw[<- hsz];exact hx),fun id o ho=>?_,hh.own,hh.inj⟩,tr⟩;exact RepO.mono tr id o (fun _ _=>⟨rfl,rfl⟩) ⟨rfl,rfl⟩ (fun hbk=>hk _ (hne id o ho hbk)) (hh.obj id o ho)
theorem qcl{σ:Type}{cx:Cx σ}{L:Loc}{F0:Nat->Nat}{w0:World}{h:Heap}{s:σ}{fn:Func}{tmps:Array Value}{R:Ending->World->Prop}:∀ (m:List Nat) {F:Nat->Nat} {w:World},HeapOk cx L F h s w->Tr F0 w0 F w ->
  (∀ b∈m,w.heap[b]?=some (.deferred (some []))/\¬ cx.C s b)->m.Nodup->(∀ w',HeapOk cx L F h s w'->Tr F w F w' -> ∃ v,(results fn tmps).run P w' = .ok v w'/\R (.returned v) w') ->
  LeavesInM Fence.wide 0 P fn tmps R (m.map mark) .returning w
 | [],F,w,hh,tr,hm,hn,hR=>by
  simp only[List.map_nil,LeavesInM,LeavesIn];exact hR w hh (Tr.refl F w)
 | b::m,F,w,hh,tr,hm,hn,hR=>by
  obtain⟨hb,hC⟩:=hm b (List.mem_cons_self ..);obtain⟨hh',tr'⟩:=hh.unmark hb hC;simp only[List.map_cons,LeavesInM];refine⟨by simp,.inl ⟨b,w.putObj b (.deferred none),rfl,?_,?_⟩⟩
  ·simp[Instr.takeDeferred,Sem.run_bind,getObj,setObj,Sem.run,hb,Result.andThen,World.putObj]
  ·have hnd:=List.nodup_cons.1 hn
   refine qcl m hh' (Tr.trans tr tr') (fun x hx=>?_) hnd.2 fun w' h1 h2=>hR w' h1 (Tr.trans tr' h2);have hxb:x≠b:=by rintro rfl;exact hnd.1 hx
   refine⟨?_,(hm x (List.mem_cons_of_mem _ hx)).2⟩;rw[<- (hm x (List.mem_cons_of_mem _ hx)).1];simp[World.putObj,Array.getElem?_setIfInBounds_ne (Ne.symm hxb)]
def fnB(ft:FT)(fn:Func)(n:Nat):Bool:=
 match fn.body with
 | some c => jm fn.ntmps c && qbS ft c && Nat.ble fn.ntmps 1000000 && fn.name != "runtime.NumGoroutine" && Nat.ble n fn.ntmps
 | none=>false
theorem qcE:∀ {args:List V} {i s:Nat} {v:V},get (jn i args) s=some v -> ∃ k,s=i+k/\args[k]?=some v
 | [],i,s,v,h=>by cases h
 | a::r,i,s,v,h=>by
  simp only[jn,get]at h;split at h
  ·rename_i he
   have:=Nat.eq_of_beq_eq_true he;subst this;cases h;exact⟨0,rfl,rfl⟩
  ·obtain⟨k,rfl,hk⟩:=qcE h
   exact⟨k+1,by omega,by simpa using hk⟩
theorem qaT(hm:P.follows .mixedOrders=true)(hT:qU P T){σ:Type}{Y:Hd σ}{f:FuncId}{fn:Func}{c:Code}(hf:P.funcs[f]?=some fn)(hb:fn.body=some c){ft:FT}{args:List V}(hok:fnB ft fn args.length=true)
  {h:Heap} {s:σ} {Q:V->Heap->σ->Prop} (hw:wpA P T ft Y.np c ⟨jn 0 args,h,s⟩ (fnK T fn.results.toList Q)):FnC P Y f args h s Q:=by
 unfold fnB at hok;rw[hb]at hok;simp only[Bool.and_eq_true,bne_iff_ne,ne_eq]at hok;obtain⟨⟨⟨⟨hcode,hdraws⟩,hnt⟩,hname⟩,hlen⟩:=hok;have hnt:=Nat.le_of_ble_eq_true hnt;have hlen:=Nat.le_of_ble_eq_true hlen;refine⟨fun vs w=>by simp[callFunc,hf,hname,hb,Go.mark],fun cx hY L F vals w hh hr=>?_⟩;have hvl:vals.size=args.length:=by simpa using hr.length
 have hsz:(vals++Array.replicate (fn.ntmps-vals.size) undef).size=fn.ntmps:=by simp;omega
 refine callsIn_of_wp_marks hf hb trivial ?_;have hg:Good { cx with pρ:=L.ρ,pκ:=L.κ,base:=[] } none [] L F ⟨jn 0 args,h,s⟩ { tmps:=vals++Array.replicate (fn.ntmps-vals.size) undef,defers:=[] } w:=by
  refine⟨⟨hh.hg,hh.csz,hh.fresh,hh.obj,hh.own,hh.inj⟩,fun t v ht=>?_,rfl,(fun b hb=>by cases hb),List.nodup_nil,(fun l hl=>by cases hl),fun _ _=>⟨rfl,rfl⟩,by rw[hsz];exact hnt⟩;obtain⟨k,hk,hv⟩:=qcE ht;rw[Nat.zero_add]at hk;subst hk;obtain⟨x,hx,hrx⟩:=hr.get t hv;refine⟨x,?_,hrx⟩;have hlt:t<vals.size:=by
   have:=(List.getElem?_eq_some_iff.1 hx).1;simpa using this
  rw[Array.getElem?_append_left hlt];simpa using hx
 have hY':Handles P Y.np { cx with pρ:=L.ρ,pκ:=L.κ,base:=[] }:=by
  refine⟨?_,hY.laid⟩;intro l hl args h s Q hy L' F' vals w hh' hr;obtain⟨fn,tmps,asg,body,h1,h2⟩:=hY.yld l hl args h s Q hy L' F' vals w ⟨hh'.hg,hh'.csz,hh'.fresh,hh'.obj,hh'.own,hh'.inj⟩ hr;refine⟨fn,tmps,asg,body,h1,h2.mono ?_⟩;rintro e w' ⟨x,he,v,h',s',L'',F'',hq,hh'',rest⟩;exact⟨x,he,v,h',s',L'',F'',hq,⟨hh''.hg,hh''.csz,hh''.fresh,hh''.obj,hh''.own,hh''.inj⟩,rest⟩
 have hwp:=zM hT c (qg hm hT hdraws) ⟨jn 0 args,h,s⟩ _ hw _ hY' none [] L F _ w hg (by rw[hsz];exact hcode);have hwp:c.wpIn Fence.wide 0 P _ { tmps:=vals++Array.replicate (fn.ntmps-vals.size) undef,defers:=[] } w:=hwp;refine wpIn_mono hwp fun ex a' w' hq=>?_;rcases hq with⟨e',st',m',L',F',rfl,hk,hg',tr,hs⟩|⟨v,e',h',s',m',L',F',_,hy,_⟩
 case inr=>exact hy.elim
 have fin:fnK T fn.results.toList Q .normal st'->LeavesInM Fence.wide 0 P fn a'.tmps (fun e w'=>∃ x,e = .returned x /\ ∃ v h' s' L' F',Q v h' s'/\HeapOk cx L' F' h' s' w'/\RepV cx.yv L' F' w' v x/\Tr F w F' w'/\qfb L L') a'.defers .returning w':=by
  intro hk;rw[hg'.dfr,List.append_nil];refine qcl m' hg'.heap tr hg'.mks hg'.mnd fun w'' hh'' tr''=>?_;obtain⟨e1,h1,s1⟩:=st';have hk:quJ T e1 h1 fn.results.toList fun l=>RetA l h1 s1 Q:=hk;obtain⟨l,⟨hret⟩,hrun⟩:=qjj (P:=P) hT hk;have hg'':Good { cx with pρ:=L.ρ,pκ:=L.κ,base:=[] } none [] L' F' ⟨e1,h1,s1⟩ { a' with defers:=[] } w'':=by
   refine⟨hh'',fun t v ht=>?_,rfl,(fun b hb=>by cases hb),List.nodup_nil,(fun l hl=>by cases hl),hg'.pin,hg'.tsz⟩;obtain⟨x,hx,hrx⟩:=hg'.env t v ht;exact⟨x,hx,RepV.mono tr'' v x (fun _ _=>⟨rfl,rfl⟩) hrx⟩
  obtain⟨vals',hres,hrep⟩:=hrun hg'';obtain⟨v,h',L2,F2,hq,hh2,hr2,tr2,pin2⟩:=hret cx L' F' vals' w'' ⟨hh''.hg,hh''.csz,hh''.fresh,hh''.obj,hh''.own,hh''.inj⟩ hrep;refine⟨_,qbT hres,_,rfl,v,h',s1,L2,F2,hq,hh2,hr2,Tr.trans tr (Tr.trans tr'' tr2),fun i hi=>?_⟩;obtain⟨p1,p2⟩:=pin2 i hi;obtain⟨p3,p4⟩:=hg'.pin i hi;exact⟨p1.trans p3,p2.trans p4⟩
 cases e' with
 | normal=>exact fin hk
 | ret=>exact fin hk
 | exit i=>exact hk.elim
end
def qlJ(R:Nat->Nat)(v:V):V:=
 match v with
 | .ptr i off=>.ptr (R i) off
 | .ep i sz k off=>.ep (R i) sz k off
 | .sl i sz off n=>.sl (R i) sz off n
 | .mp i=>.mp (R i)
 | .it i=>.it (R i)
 | v=>v
abbrev ren(R:Nat->Nat)(v:V):V:=mapId (qlJ R) v
abbrev qpJ(R:Nat->Nat)(v:List V):List V:=zH (qlJ R) v
abbrev qgE(R:Nat->Nat)(o:Obj):Obj:=Obj.mapId (qlJ R) o
section
variable {yv : Option Nat} {L L' : Loc} {F : Nat -> Nat} {w : World} {R : Nat -> Nat}
mutual
theorem RepV.ren:∀ (v:V) (x:Value),(∀ i,qbz v i->L'.ρ (R i)=L.ρ i/\L'.κ (R i)=L.κ i)->(RepV yv L' F w (mapId (qlJ R) v) x↔RepV yv L F w v x)
 | .d v,_,_=>Iff.rfl
 | .agg cs,x,hn=>by
  constructor
  ·rintro ⟨l,rfl,hl⟩;exact⟨l,rfl,(RepVL.ren cs _ hn).1 hl⟩
  ·rintro ⟨l,rfl,hl⟩;exact⟨l,rfl,(RepVL.ren cs _ hn).2 hl⟩
 | .tup cs,x,hn=>by
  constructor
  ·rintro ⟨l,rfl,hl⟩;exact⟨l,rfl,(RepVL.ren cs _ hn).1 hl⟩
  ·rintro ⟨l,rfl,hl⟩;exact⟨l,rfl,(RepVL.ren cs _ hn).2 hl⟩
 | .ptr id off,x,hn=>by
  show x = .pointer (some ⟨L'.ρ (R id),off,none⟩)↔x = .pointer (some ⟨L.ρ id,off,none⟩);rw[(hn id rfl).1]
 | .ep id sz k off,x,hn=>by
  show x = .pointer (some ⟨L'.ρ (R id),k*sz+off,none⟩)↔x = .pointer (some ⟨L.ρ id,k*sz+off,none⟩);rw[(hn id rfl).1]
 | .sl id sz off len,x,hn=>by
  show(∃ a cap,x = .slice a len cap/\len<=cap/\0<sz/\((len=0/\cap=0)\/(a=some ⟨L'.ρ (R id),off*sz,none⟩/\(off+cap)*sz<=L'.κ (R id)))) ↔
   (∃ a cap,x = .slice a len cap/\len<=cap/\0<sz/\((len=0/\cap=0)\/(a=some ⟨L.ρ id,off*sz,none⟩/\(off+cap)*sz<=L.κ id)))
  rw[(hn id rfl).1,(hn id rfl).2]
 | .mp id,x,hn=>by
  show x = .map (some (L'.ρ (R id)))↔x = .map (some (L.ρ id));rw[(hn id rfl).1]
 | .it id,x,hn=>by
  show x = .pointer (some ⟨L'.ρ (R id),0,none⟩)↔x = .pointer (some ⟨L.ρ id,0,none⟩);rw[(hn id rfl).1]
 | .clo f cs,x,hn=>by
  constructor
  ·rintro ⟨l,rfl,hl⟩;exact⟨l,rfl,(RepVL.ren cs _ hn).1 hl⟩
  ·rintro ⟨l,rfl,hl⟩;exact⟨l,rfl,(RepVL.ren cs _ hn).2 hl⟩
 | .yld,_,_=>Iff.rfl
 | .unk,_,_=>Iff.rfl
theorem RepVL.ren:∀ (vs:List V) (l:List Value),(∀ i,zc vs i->L'.ρ (R i)=L.ρ i/\L'.κ (R i)=L.κ i)->(RepVL yv L' F w (zH (qlJ R) vs) l↔RepVL yv L F w vs l)
 | [],_,_=>Iff.rfl
 | v::r,l,hn=>by
  simp only[zH,RepVL];constructor
  ·rintro ⟨x,l',rfl,hv,hl⟩;exact⟨x,l',rfl,(RepV.ren v x fun i hi=>hn i (.inl hi)).1 hv,(RepVL.ren r l' fun i hi=>hn i (.inr hi)).1 hl⟩
  ·rintro ⟨x,l',rfl,hv,hl⟩;exact⟨x,l',rfl,(RepV.ren v x fun i hi=>hn i (.inl hi)).2 hv,(RepVL.ren r l' fun i hi=>hn i (.inr hi)).2 hl⟩
end
theorem qhL{f:V->V}{sz:Nat}{l:List (List V)}:zL sz (qr f l)↔zL sz l:=by
 induction l with
 | nil=>exact Iff.rfl
 | cons e r ih=>
  simp only[qr,zL,List.forall_mem_cons,qbD];exact and_congr Iff.rfl ih
theorem qni{f:V->V}{l:List (List V)}:qr f l = []↔l = []:=by cases l<;>simp[qr]
theorem RepO.ren(id:Nat)(o:Obj)(hn:∀ i,qdK o i->L'.ρ (R i)=L.ρ i/\L'.κ (R i)=L.κ i){id':Nat}(hid:L'.ρ id'=L.ρ id/\L'.κ id'=L.κ id) :
  RepO yv L' F w id' (qgE R o)↔RepO yv L F w id o:=by
 cases o with
 | box c=>
  cases c with
  | dd l=>
   simp only[RepO,Obj.mapId,hid.1,Cells.toV,RepVL.inj]
  | vv l=>
   simp only[RepO,Obj.mapId,hid.1,Cells.toV];refine exists_congr fun c=>exists_congr fun T=>and_congr Iff.rfl (RepVL.ren l _ hn)
 | arr sz es=>
  cases es with
  | dd l=>
   simp only[RepO,Obj.mapId,hid.1,hid.2,Els.toV,zW,RepVL.inj]
  | vv l=>
   simp only[RepO,Obj.mapId,hid.1,hid.2,Els.toV];rw[qhL,qni,qao,jY];refine and_congr Iff.rfl (and_congr Iff.rfl (or_congr Iff.rfl ?_));refine exists_congr fun c=>exists_congr fun T=>and_congr Iff.rfl (and_congr Iff.rfl (and_congr Iff.rfl (RepVL.ren l.flatten _ hn)))
 | map kvs=>simp only[RepO,Obj.mapId,hid.1]
 | iter s n=>simp only[RepO,Obj.mapId,hid.1]
 | buf t s=>simp only[RepO,Obj.mapId,hid.1,hid.2]
 | tb t l=>
  simp only[RepO,Obj.mapId,hid.1];refine exists_congr fun c=>and_congr Iff.rfl (RepVL.ren l _ hn)
 | mit v n l u=>
  simp only[RepO,Obj.mapId,hid.1];refine exists_congr fun r=>exists_congr fun seen=>and_congr (RepV.ren v _ hn) Iff.rfl
theorem zm(id:Nat)(o:Obj){id':Nat}(hk:L'.κ id'=L.κ id):Backed L' id' (qgE R o)↔Backed L id o:=qeg hk o
end
def qaE(tb:List Nat)(d:Nat)(i:Nat):Nat:=
 match Nat.blt i 1000000 with
 | true=>i
 | false=>match Nat.blt i 2000000 with
  | true=>match tb[i-1000000]? with
   | some k=>k
   | none=>0
  | false=>100000+64*d+(i-2000000)
def jc:Heap->List Nat
 | []=>[]
 | (i,_)::r=>match Nat.blt i 2000000 with
  | true=>jc r
  | false=>i::jc r
def qdT(R:Nat->Nat)(h':Heap):Nat->List Nat->List Wr
 | _,[]=>[]
 | i,k::r=>(match get h' i with
  | some o=>.obj k (qgE R o)
  | none=>.del k)::qdT R h' (i+1) r
def qhM(R:Nat->Nat)(h':Heap):List Nat->List Wr
 | []=>[]
 | i::r=>(match get h' i with
  | some o=>.new (R i) (qgE R o)
  | none=>.new (R i) (.box (.dd [])))::qhM R h' r
def zN(tb:List Nat)(d:Option Nat)(v:V)(h':Heap):List Wr:=
 let R:=qaE tb (d.getD 0)
 qhM R h' (jc h')++(qdT R h' 1000000 tb++wset d (ren R v))
def qcm:List Nat->Bool
 | []=>true
 | k::r=>!inL r k&&qcm r
def qpK(n:Nat)(nk:List Nat):List Nat->Bool
 | []=>true
 | i::r=>(Nat.ble 1000000 i&&Nat.blt i (1000000+n)||inL nk i)&&qpK n nk r
def zz:Heap->List Nat
 | []=>[]
 | (i,o)::r=>i::(qaH o++zz r)
def qcF(R:Nat->Nat)(h:Heap):Nat->List Nat->Heap->Prop
 | _,[],h0=>h0 = []
 | i,k::r,h0=>∃ o h1,h0=(i,o)::h1/\get h k=some (qgE R o)/\qcF R h (i+1) r h1
def qbU(tb:List Nat)(d:Option Nat)(v:V)(h':Heap):Bool:=
 qcm tb&&Nat.ble (jc h').length 64&&qcm (jc h')&&disj tb ((jc h').map (qaE tb (d.getD 0)))&&qpK tb.length (jc h') (zz h')&&qpK tb.length (jc h') (zq v) &&
  (jc h').all (fun i=>Nat.blt i 2000064)&&Nat.ble (d.getD 0) 10000&&Nat.ble tb.length 1000&&qaw (zN tb d v h')
def FnU(P:Program)(f:FuncId)(args:List V)(h:Heap)(Q:V->Heap->Prop):Prop:=
 ∀ {σ:Type} (Y:Hd σ) (s:σ),FnC P Y f args h s fun v h' s'=>Q v h'/\s'=s
theorem qas:∀ {l:List Nat},qcm l=true->l.Nodup
 | [],_=>List.nodup_nil
 | k::r,h=>by
  simp only[qcm,Bool.and_eq_true,Bool.not_eq_true']at h;refine List.nodup_cons.2 ⟨fun hm=>?_,qas h.2⟩;rw[qbr.2 hm]at h;cases h.1
theorem qgf{n:Nat}{nk:List Nat}:∀ {l:List Nat},qpK n nk l=true -> ∀ i∈l,(1000000<=i/\i<1000000+n)\/i∈nk
 | [],_,i,hi=>by cases hi
 | k::r,h,i,hi=>by
  simp only[qpK,Bool.and_eq_true,Bool.or_eq_true]at h;rcases List.mem_cons.1 hi with rfl|hi
  ·exact h.1.imp (fun h=>⟨Nat.le_of_ble_eq_true h.1,Nat.le_of_ble_eq_true h.2⟩) qbr.1
  ·exact qgf h.2 i hi
theorem qH:∀ {h:Heap} {i:Nat} {o:Obj},get h i=some o->i∈zz h /\ ∀ x∈qaH o,x∈zz h
 | [],i,o,h=>by cases h
 | (k,p)::r,i,o,h=>by
  simp only[get]at h;split at h
  ·rename_i he
   have:=Nat.eq_of_beq_eq_true he;subst this;cases h;exact⟨by simp[zz],fun x hx=>by simp[zz,hx]⟩
  ·obtain⟨h1,h2⟩:=qH h
   exact⟨by simp[zz,h1],fun x hx=>by simp[zz,h2 x hx]⟩
theorem qeh:∀ {h:Heap} {i:Nat},i∈jc h->2000000<=i
 | [],i,h=>by cases h
 | (k,p)::r,i,h=>by
  simp only[jc]at h;split at h
  ·exact qeh h
  ·rename_i hk
   rcases List.mem_cons.1 h with rfl|h
   ·rcases Nat.lt_or_ge i 2000000 with hlt|hge
    ·rw[show Nat.blt i 2000000=true from Nat.ble_eq_true_of_le hlt]at hk;cases hk
    ·exact hge
   ·exact qeh h
theorem qei{tb:List Nat}{d k id:Nat}(hk:tb[k]?=some id)(hl:tb.length<=1000):qaE tb d (1000000+k)=id:=by
 have hlt:k<tb.length:=(List.getElem?_eq_some_iff.1 hk).1;unfold qaE;have h1:Nat.blt (1000000+k) 1000000=false:=by
  rw[Bool.eq_false_iff];intro h;have:=Nat.le_of_ble_eq_true h;omega
 have h2:Nat.blt (1000000+k) 2000000=true:=Nat.ble_eq_true_of_le (by omega);rw[h1,h2];simp only[show 1000000+k-1000000=k by omega,hk]
theorem qro{tb:List Nat}{d i:Nat}(hi:2000000<=i):qaE tb d i=100000+64*d+(i-2000000):=by
 unfold qaE;have h1:Nat.blt i 1000000=false:=by
  rw[Bool.eq_false_iff];intro h;have:=Nat.le_of_ble_eq_true h;omega
 have h2:Nat.blt i 2000000=false:=by
  rw[Bool.eq_false_iff];intro h;have:=Nat.le_of_ble_eq_true h;omega
 rw[h1,h2]
theorem qhN{R:Nat->Nat}{h:Heap}:∀ {tb:List Nat} {b:Nat} {h0:Heap},qcF R h b tb h0 -> ∀ i o,get h0 i=some o -> ∃ k id,i=b+k/\tb[k]?=some id/\get h id=some (qgE R o)
 | [],b,h0,hl,i,o,hi=>by
  have:h0 = []:=hl;subst this;cases hi
 | id::r,b,h0,hl,i,o,hi=>by
  obtain⟨o',h1,rfl,hg,hl⟩:=hl;simp only[get]at hi;split at hi
  ·rename_i he
   have:=Nat.eq_of_beq_eq_true he;subst this;cases hi;exact⟨0,id,rfl,by simp,hg⟩
  ·obtain⟨k,id',rfl,hk,hg'⟩:=qhN hl i o hi
   exact⟨k+1,id',by omega,by simpa using hk,hg'⟩
def clr{σ:Type}(st:St σ):List Nat->St σ
 | []=>st
 | i::r=>clr ⟨jT (mapId (qz i)) st.env,jT (Obj.mapId (qz i)) (cut st.heap i),st.s⟩ r
def kills:List Nat->V->V
 | [],v=>v
 | i::r,v=>kills r (mapId (qz i) v)
def qgF:List Nat->Obj->Obj
 | [],v=>v
 | i::r,v=>qgF r (Obj.mapId (qz i) v)
theorem qwA{σ:Type}:∀ (l:List Nat) (st:St σ),(clr st l).s=st.s
 | [],_=>rfl
 | _::r,st=>by rw[clr,qwA r]
theorem qhO{σ:Type}:∀ (l:List Nat) (st:St σ) (x:Nat),get (clr st l).env x=(get st.env x).map (kills l)
 | [],st,x=>by cases h:get st.env x<;>simp[clr,kills,h]
 | i::r,st,x=>by
  rw[clr,qhO r,qQ];cases h:get st.env x<;>simp[kills]
theorem qej{σ:Type}:∀ (l:List Nat) (st:St σ) (x:Nat),get (clr st l).heap x=if x∈l then none else (get st.heap x).map (qgF l)
 | [],st,x=>by cases h:get st.heap x<;>simp[clr,qgF,h]
 | i::r,st,x=>by
  rw[clr,qej r,qQ,zZ];by_cases h1:x∈r
  ·simp[h1]
  ·by_cases h2:x=i
   ·simp[h2]
   ·cases h:get st.heap x<;>simp[h1,h2,qgF]
theorem qov:∀ (l:List Nat) (v:V),(∀ i∈l,¬ qbz v i)->kills l v=v
 | [],_,_=>rfl
 | i::r,v,h=>by
  rw[kills,qkl i v (h i (List.mem_cons_self ..))];exact qov r v fun j hj=>h j (List.mem_cons_of_mem _ hj)
theorem qhP:∀ (l:List Nat) (v:Obj),(∀ i∈l,¬ qdK v i)->qgF l v=v
 | [],_,_=>rfl
 | i::r,v,h=>by
  rw[qgF,qou i v (h i (List.mem_cons_self ..))];exact qhP r v fun j hj=>h j (List.mem_cons_of_mem _ hj)
section
variable {σ : Type} {cx : Cx σ} {r : Option Nat} {m : List Nat} {L : Loc} {F : Nat -> Nat} {a : Act} {w : World}
theorem Good.clr:∀ (l:List Nat) {st:St σ},Good cx r m L F st a w->Good cx r m L F (clr st l) a w
 | [],st,h=>h
 | i::l,st,h=>by
  have h1:Good cx r m L F ⟨st.env,cut st.heap i,st.s⟩ a w:=h.del i;exact Good.clr l (h1.kill i)
end
theorem qgg{e:Env}{h:Heap}(k:Nat){x:Nat}(hx:x=k\/Unn ⟨get e,get h⟩ x):Unn ⟨get (jT (mapId (qz k)) e),get (jT (Obj.mapId (qz k)) (cut h k))⟩ x:=by
 refine⟨?_,fun t v ht hnm=>?_,fun t o ht hnm=>?_⟩
 ·show get _ x=none
  rw[qQ,zZ];split
  ·rfl
  ·rename_i hxk
   have:get h x=none:=(hx.resolve_left hxk).none;rw[this];rfl
 ·simp only[qQ]at ht
  cases h1:get e t with
  | none=>simp[h1]at ht
  | some v0=>
   simp[h1]at ht;subst ht;obtain⟨y,h2,rfl,h3⟩:=qdS (qko k) v0 x hnm;exact(hx.resolve_left h3).env t v0 h1 h2
 ·simp only[qQ,zZ]at ht
  split at ht
  ·cases ht
  ·cases h1:get h t with
   | none=>simp[h1]at ht
   | some v0=>
    simp[h1]at ht;subst ht;obtain⟨y,h2,rfl,h3⟩:=qge (qko k) v0 x hnm;exact(hx.resolve_left h3).heap t v0 h1 h2
theorem qrp{σ:Type}:∀ (l:List Nat) (st:St σ) (B:Nat->Prop),(∀ x,B x->Unn (qaS st) x) -> ∀ x,x∈l\/B x->Unn (qaS (clr st l)) x
 | [],st,B,hB,x,hx=>hB x (hx.resolve_left (by simp))
 | i::l,st,B,hB,x,hx=>by
  rw[clr];refine qrp l ⟨jT (mapId (qz i)) st.env,jT (Obj.mapId (qz i)) (cut st.heap i),st.s⟩ (fun y=>y=i\/B y) (fun y hy=>qgg i (hy.imp id (hB y))) x ?_;rcases hx with hx|hx
  ·rcases List.mem_cons.1 hx with rfl|hx
   ·exact .inr (.inl rfl)
   ·exact .inl hx
  ·exact .inr (.inr hx)
theorem qow{σ:Type}:∀ (ws:List Wr) (st:St σ),qaw ws=true->qaS (qx st ws)=appFs (qaS (clr st (zp ws))) ws
 | [],st,_=>rfl
 | w::r,st,hok=>by
  obtain⟨h1,h2,h3,h4⟩:=qhE hok;rw[qx,qow r _ h1,appFs]
  congr 1
  have put:∀ (i:Nat) (o:Obj),(∀ x∈zp r,x∉qaH o)->(∀ x∈zp r,x≠i) -> ∀ (e:Env) (h:Heap) (s:σ),
    qaS (clr (⟨e,put h i o,s⟩:St σ) (zp r))=⟨(qaS (clr (⟨e,h,s⟩:St σ) (zp r))).env,fun x=>if x=i then some o else (qaS (clr (⟨e,h,s⟩:St σ) (zp r))).heap x⟩:=by
   intro i o ho hi e h s
   ext1
   ·funext x;simp only[qaS,qhO]
   ·funext x
    simp only[qaS,qej,jq];by_cases hx:x=i
    ·subst hx
     rw[if_neg (fun hm=>hi x hm rfl),if_pos rfl,if_pos rfl];simp only[Option.map_some];rw[qhP _ _ fun j hj hn=>ho j hj (jz j o hn)]
    ·simp only[hx,if_false]
  have one:∀ (i:Nat) (o:Obj),(∀ x∈zp r,x∉qaH o)->(∀ x∈zp r,x≠i) -> ∀ (e:Env) (h:Heap) (s:σ),
    qaS (clr (⟨e,(i,o)::h,s⟩:St σ) (zp r))=⟨(qaS (clr (⟨e,h,s⟩:St σ) (zp r))).env,fun x=>if x=i then some o else (qaS (clr (⟨e,h,s⟩:St σ) (zp r))).heap x⟩:=by
   intro i o ho hi e h s
   ext1
   ·funext x;simp only[qaS,qhO]
   ·funext x
    simp only[qaS,qej,qI];by_cases hx:x=i
    ·subst hx
     rw[if_neg (fun hm=>hi x hm rfl),if_pos rfl,if_pos rfl];simp only[Option.map_some];rw[qhP _ _ fun j hj hn=>ho j hj (jz j o hn)]
    ·simp only[hx,if_false]
  cases w with
  | set s v=>
   simp only[zf,zp,appF]
   ext1
   ·funext x
    simp only[qaS,qhO,jq];split
    ·simp only[Option.map_some]
     rw[qov _ _ fun j hj hn=>h2 j hj (by simp[zE,qaZ j v hn])]
    ·rfl
   ·funext x;simp only[qaS,qej]
  | obj i o=>
   simp only[zf,zp,appF];exact put i o (fun x hx=>by simpa[zE]using h2 x hx) (fun x hx he=>by obtain⟨_,hd⟩:=h3 x hx (by simp[jj,he]);cases hd) _ _ _
  | new i o=>
   simp only[zf,zp,appF];rw[clr];exact one i o (fun x hx=>by simpa[zE]using h2 x hx) (fun x hx he=>by obtain⟨_,hd⟩:=h3 x hx (by simp[jj,he]);cases hd) _ _ _
  | newq i o=>exact absurd rfl (h4 i o)
  | del i=>
   simp only[zf,zp,appF]
   ext1
   ·funext x;simp only[qaS,qhO]
   ·funext x
    simp only[qaS,qej,zZ];by_cases h1:x=i
    ·simp[h1]
    ·simp[h1]
theorem qlK(a b:List Wr):zp (a++b)=zp a++zp b:=by
 induction a with
 | nil=>rfl
 | cons w r ih=>cases w<;>simp[zp,ih]
theorem qcn(f:Fs)(a b:List Wr):appFs f (a++b)=appFs (appFs f a) b:=by
 induction a generalizing f with
 | nil=>rfl
 | cons w r ih=>simp[appFs,ih]
theorem qpL(d:Option Nat)(v:V):zp (wset d v) = []:=by cases d<;>rfl
theorem qjk(R:Nat->Nat)(h':Heap):∀ (l:List Nat) (i:Nat),zp (qdT R h' i l) = []
 | [],_=>rfl
 | k::r,i=>by
  simp only[qdT];split<;>simp[zp,qjk R h' r]
theorem qlL(R:Nat->Nat)(h':Heap):∀ (l:List Nat),zp (qhM R h' l)=l.map R
 | []=>rfl
 | k::r=>by
  simp only[qhM];split<;>simp[zp,qlL R h' r]
theorem qpM(tb:List Nat)(d:Option Nat)(v:V)(h':Heap):zp (zN tb d v h')=(jc h').map (qaE tb (d.getD 0)):=by
 simp only[zN,qlK,qlL,qjk,qpL,List.append_nil]
theorem qlM(R:Nat->Nat)(h':Heap):∀ (l:List Nat) (b:Nat) (f:Fs) (x:Nat) (o:Obj),(appFs f (qdT R h' b l)).heap x=some o ->
  (∃ k o0,l[k]?=some x/\get h' (b+k)=some o0/\o=qgE R o0)\/(x∉l/\f.heap x=some o)
 | [],b,f,x,o,h=>.inr ⟨by simp,h⟩
 | k::r,b,f,x,o,h=>by
  simp only[qdT,appFs]at h;rcases qlM R h' r (b+1) _ x o h with⟨j,o0,h1,h2,h3⟩|⟨h1,h2⟩
  ·exact .inl ⟨j+1,o0,by simpa using h1,by rw[show b+(j+1)=b+1+j by omega];exact h2,h3⟩
  ·by_cases hx:x=k
   ·subst hx
    left;split at h2
    ·rename_i o0 ho
     simp only[appF,if_true,Option.some.injEq]at h2;exact⟨0,o0,by simp,ho,h2.symm⟩
    ·simp[appF]at h2
   ·right
    refine⟨by simp[hx,h1],?_⟩;split at h2
    ·simpa[appF,hx]using h2
    ·simpa[appF,hx]using h2
theorem qkp(R:Nat->Nat)(h':Heap):∀ (l:List Nat) (b:Nat) (f:Fs),(appFs f (qdT R h' b l)).env=f.env
 | [],b,f=>rfl
 | k::r,b,f=>by
  simp only[qdT,appFs];rw[qkp R h' r];split<;>rfl
theorem qox(R:Nat->Nat)(h':Heap):∀ (l:List Nat) (f:Fs) (x:Nat) (o:Obj),(∀ i∈l,(get h' i).isSome)->(appFs f (qhM R h' l)).heap x=some o ->
  (∃ i o0,i∈l/\x=R i/\get h' i=some o0/\o=qgE R o0)\/(x∉l.map R/\f.heap x=some o)
 | [],f,x,o,_,h=>.inr ⟨by simp,h⟩
 | k::r,f,x,o,hl,h=>by
  simp only[qhM,appFs]at h;rcases qox R h' r _ x o (fun i hi=>hl i (List.mem_cons_of_mem _ hi)) h with⟨i,o0,h1,h2,h3⟩|⟨h1,h2⟩
  ·exact .inl ⟨i,o0,List.mem_cons_of_mem _ h1,h2,h3⟩
  ·obtain⟨o0,ho⟩:=Option.isSome_iff_exists.1 (hl k (List.mem_cons_self ..))
   simp only[ho,appF]at h2;by_cases hx:x=R k
   ·subst hx
    simp only[if_true,Option.some.injEq]at h2;exact .inl ⟨k,o0,List.mem_cons_self ..,rfl,ho,h2.symm⟩
   ·exact .inr ⟨by simpa[hx]using h1,by simpa[hx]using h2⟩
theorem qnj(R:Nat->Nat)(h':Heap):∀ (l:List Nat) (f:Fs),(appFs f (qhM R h' l)).env=f.env
 | [],f=>rfl
 | k::r,f=>by
  simp only[qhM,appFs];rw[qnj R h' r];split<;>rfl
theorem qhQ:∀ {h:Heap} {i:Nat},i∈jc h->(get h i).isSome
 | [],i,h=>by cases h
 | (k,p)::r,i,h=>by
  simp only[get];split
  ·rfl
  ·rename_i hk
   refine qhQ ?_;simp only[jc]at h;split at h
   ·exact h
   ·rcases List.mem_cons.1 h with rfl|h
    ·simp at hk
    ·exact h
end Go.PX
