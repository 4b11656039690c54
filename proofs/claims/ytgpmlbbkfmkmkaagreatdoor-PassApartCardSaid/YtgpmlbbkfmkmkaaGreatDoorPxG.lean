import Derived.Test.YtgpmlbbkfmkmkaaGreatDoorPxF
import Derived.RangeFuncLeaves
import Derived.RangeFuncRecord
set_option linter.all false
namespace Go.PX
open Go.RowKit
def qhd(f:V->V)(R:Nat->Nat->Prop):Prop:=∀ v x y,qdq v=some y->qbs (f v) x->R y x
mutual
theorem qdF{f:V->V}{R:Nat->Nat->Prop}(hf:qhd f R):∀ (v:V) (x:Nat),qbs (mapId f v) x -> ∃ y,qbs v y/\R y x
 | .d _,_,h=>h.elim
 | .agg cs,x,h=>qaW hf cs x h
 | .tup cs,x,h=>qaW hf cs x h
 | .clo _ cs,x,h=>qaW hf cs x h
 | .ptr i off,x,h=>⟨i,rfl,hf _ x i rfl h⟩
 | .ep i sz j off,x,h=>⟨i,rfl,hf _ x i rfl h⟩
 | .sl i sz off len,x,h=>⟨i,rfl,hf _ x i rfl h⟩
 | .mp i,x,h=>⟨i,rfl,hf _ x i rfl h⟩
 | .it i,x,h=>⟨i,rfl,hf _ x i rfl h⟩
 | .yld,_,h=>h.elim
 | .unk,_,h=>h.elim
theorem qaW{f:V->V}{R:Nat->Nat->Prop}(hf:qhd f R):∀ (vs:List V) (x:Nat),zc (zC f vs) x -> ∃ y,zc vs y/\R y x
 | [],_,h=>h.elim
 | v::r,x,h=>by
  rcases h with h | h
  ·obtain⟨y,h1,h2⟩:=qdF hf v x h;exact⟨y,.inl h1,h2⟩
  ·obtain⟨y,h1,h2⟩:=qaW hf r x h;exact⟨y,.inr h1,h2⟩
end
theorem qfJ{f:V->V}{R:Nat->Nat->Prop}(hf:qhd f R)(o:Obj)(x:Nat)(h:qdx (Obj.mapId f o) x):∃ y,qdx o y/\R y x:=by
 cases o with
 | box c=>cases c with
  | dd l=>exact(jz l x h).elim
  | vv l=>exact qaW hf l x h
 | arr sz es=>cases es with
  | dd l=>
   exfalso;have h:zc (zd l).flatten x:=h;rw[zU]at h;exact jz _ x h
  | vv l=>
   have h:zc (qr f l).flatten x:=h;rw[jS]at h;exact qaW hf l.flatten x h
 | map kvs=>exact h.elim
 | iter s n=>exact h.elim
 | buf t s=>exact h.elim
 | tb t l=>exact qaW hf l x h
 | mit v n l u=>exact qdF hf v x h
theorem qjq(k:Nat):qhd (qy k) fun y x=>x=y/\x≠k:=by
 intro v x y hy h;simp only[qy,hy]at h
 split at h
 ·exact h.elim
 ·rename_i hk
  have hxy:x=y:=by
   cases v<;>simp only[qdq,Option.some.injEq]at hy<;>first | (cases hy;done) | skip
   all_goals (subst hy;exact(show _=_ from h).symm)
  subst hxy;exact⟨rfl,by rintro rfl;simp at hk⟩
theorem qom(i j:Nat):qhd (jy i j) fun y x=>(y=i/\x=j)\/(y≠i/\x=y):=by
 intro v x y hy h
 cases v<;>simp only[qdq,Option.some.injEq]at hy<;>first | (cases hy;done) | skip
 all_goals
  subst hy;simp only[jy]at h
  split at h
  ·rename_i hk
   exact .inl ⟨Nat.eq_of_beq_eq_true hk,(show _=_ from h).symm⟩
  ·rename_i hk
   exact .inr ⟨by rintro rfl;simp at hk,(show _=_ from h).symm⟩
mutual
theorem RepV.move{yv:Option Nat}{L L':Loc}{F:Nat->Nat}{w:World}{i j:Nat}(hj:L'.ρ j=L.ρ i/\L'.κ j=L.κ i)(hx:∀ x,x≠j->L'.ρ x=L.ρ x/\L'.κ x=L.κ x):∀ (v:V) (x:Value),¬ qbs v j->RepV yv L F w v x->RepV yv L' F w (mapId (jy i j) v) x
 | .d v,_,_,hr=>hr
 | .agg cs,_,hn,hr=>by
  obtain⟨l,rfl,hl⟩:=hr;exact⟨l,rfl,RepVL.move hj hx cs _ hn hl⟩
 | .tup cs,_,hn,hr=>by
  obtain⟨l,rfl,hl⟩:=hr;exact⟨l,rfl,RepVL.move hj hx cs _ hn hl⟩
 | .ptr id off,x,hn,hr=>by
  have hr:x = .pointer (some ⟨L.ρ id,off,none⟩):=hr;have hid:id≠j:=hn;simp only[mapId,jy]
  cases h:Nat.beq id i
  ·show x = .pointer (some ⟨L'.ρ id,off,none⟩)
   rw[(hx id hid).1];exact hr
  ·have:=Nat.eq_of_beq_eq_true h;subst this
   show x = .pointer (some ⟨L'.ρ j,off,none⟩);rw[hj.1];exact hr
 | .ep id sz k off,x,hn,hr=>by
  have hr:x = .pointer (some ⟨L.ρ id,k*sz+off,none⟩):=hr;have hid:id≠j:=hn;simp only[mapId,jy]
  cases h:Nat.beq id i
  ·show x = .pointer (some ⟨L'.ρ id,k*sz+off,none⟩)
   rw[(hx id hid).1];exact hr
  ·have:=Nat.eq_of_beq_eq_true h;subst this
   show x = .pointer (some ⟨L'.ρ j,k*sz+off,none⟩);rw[hj.1];exact hr
 | .sl id sz off len,x,hn,hr=>by
  obtain⟨a,cap,rfl,hl,hs,hc⟩:=hr;have hid:id≠j:=hn;simp only[mapId,jy]
  cases h:Nat.beq id i
  ·refine⟨a,cap,rfl,hl,hs,?_⟩
   rw[(hx id hid).1,(hx id hid).2];exact hc
  ·have:=Nat.eq_of_beq_eq_true h;subst this
   refine⟨a,cap,rfl,hl,hs,?_⟩;rw[hj.1,hj.2];exact hc
 | .mp id,x,hn,hr=>by
  have hr:x = .map (some (L.ρ id)):=hr;have hid:id≠j:=hn;simp only[mapId,jy]
  cases h:Nat.beq id i
  ·show x = .map (some (L'.ρ id))
   rw[(hx id hid).1];exact hr
  ·have:=Nat.eq_of_beq_eq_true h;subst this
   show x = .map (some (L'.ρ j));rw[hj.1];exact hr
 | .it id,x,hn,hr=>by
  have hr:x = .pointer (some ⟨L.ρ id,0,none⟩):=hr;have hid:id≠j:=hn;simp only[mapId,jy]
  cases h:Nat.beq id i
  ·show x = .pointer (some ⟨L'.ρ id,0,none⟩)
   rw[(hx id hid).1];exact hr
  ·have:=Nat.eq_of_beq_eq_true h;subst this
   show x = .pointer (some ⟨L'.ρ j,0,none⟩);rw[hj.1];exact hr
 | .clo f cs,_,hn,hr=>by
  obtain⟨l,rfl,hl⟩:=hr;exact⟨l,rfl,RepVL.move hj hx cs _ hn hl⟩
 | .yld,_,_,hr=>hr
 | .unk,_,_,hr=>hr
theorem RepVL.move{yv:Option Nat}{L L':Loc}{F:Nat->Nat}{w:World}{i j:Nat}(hj:L'.ρ j=L.ρ i/\L'.κ j=L.κ i)(hx:∀ x,x≠j->L'.ρ x=L.ρ x/\L'.κ x=L.κ x):∀ (vs:List V) (l:List Value),¬ zc vs j->RepVL yv L F w vs l->RepVL yv L' F w (zC (jy i j) vs) l
 | [],_,_,hr=>hr
 | v::r,_,hn,hr=>by
  simp only[zc,not_or]at hn;obtain⟨x,l',rfl,hv,hl⟩:=hr;exact⟨x,l',rfl,RepV.move hj hx v x hn.1 hv,RepVL.move hj hx r l' hn.2 hl⟩
end
section
variable {yv : Option Nat} {L L' : Loc} {F : Nat -> Nat} {w : World} {i j : Nat}
theorem RepO.move(hj:L'.ρ j=L.ρ i/\L'.κ j=L.κ i)(hx:∀ x,x≠j->L'.ρ x=L.ρ x/\L'.κ x=L.κ x){id id':Nat}(hid:L'.ρ id'=L.ρ id/\L'.κ id'=L.κ id)(o:Obj)(hn:¬ qdx o j)
  (h:RepO yv L F w id o):RepO yv L' F w id' (Obj.mapId (jy i j) o):=by
 cases o with
 | box c=>
  cases c with
  | dd l=>
   obtain⟨c,T,hc,hr⟩:=h;exact⟨c,T,by rw[hid.1];exact hc,RepVL.inj.2 (RepVL.inj.1 hr)⟩
  | vv l=>
   obtain⟨c,T,hc,hr⟩:=h;exact⟨c,T,by rw[hid.1];exact hc,RepVL.move hj hx _ _ hn hr⟩
 | arr sz es=>
  cases es with
  | dd l=>
   obtain⟨hs,hl,h⟩:=h;refine⟨hs,hl,?_⟩
   rcases h with⟨h,hk⟩ | ⟨c,T,hc,hk,hl',hr⟩
   ·exact .inl ⟨h,by rw[hid.2];exact hk⟩
   ·refine .inr ⟨c,T,by rw[hid.1];exact hc,by rw[hid.2];exact hk,hl',?_⟩
    have hr:RepVL yv L F w (zd l).flatten _:=hr;show RepVL yv L' F w (zd l).flatten _;rw[zU]at hr ⊢;exact RepVL.inj.2 (RepVL.inj.1 hr)
  | vv l=>
   obtain⟨hs,hl,h⟩:=h;refine⟨hs,?_,?_⟩
   ·intro e he
    obtain⟨e0,h0,rfl⟩:=qgM _ _ _ he;rw[qbw];exact hl e0 h0
   ·rcases h with⟨h,hk⟩ | ⟨c,T,hc,hk,hl',hr⟩
    ·left
     have h:l = []:=h;subst h;exact⟨rfl,by rw[hid.2];exact hk⟩
    ·right
     refine⟨c,T,by rw[hid.1];exact hc,by rw[hid.2];exact hk,?_,?_⟩
     ·show(qr _ l).length*sz<=_
      rw[qag];exact hl'
     ·show RepVL yv L' F w (qr _ l).flatten (c.toList.take ((qr _ l).length*sz))
      rw[qag,jS];exact RepVL.move hj hx _ _ hn hr
 | map kvs=>obtain⟨en,c,hc,hr⟩:=h;exact⟨en,c,by rw[hid.1];exact hc,hr⟩
 | iter s n=>
  show w.heap[L'.ρ id']?=_;rw[hid.1];exact h
 | buf t s=>
  obtain⟨c,h1,h2,h3⟩:=h;exact⟨c,by rw[hid.1];exact h1,by rw[hid.2];exact h2,h3⟩
 | tb t l=>
  obtain⟨c,hc,hr⟩:=h;exact⟨c,by rw[hid.1];exact hc,RepVL.move hj hx _ _ hn hr⟩
 | mit v n l u=>
  obtain⟨r,seen,h1,h2,h3⟩:=h;exact⟨r,seen,RepV.move hj hx _ _ hn h1,by rw[hid.1];exact h2,h3⟩
theorem qdT{f:V->V}{id id':Nat}(hk:L'.κ id'=L.κ id)(o:Obj):Backed L' id' (Obj.mapId f o)↔Backed L id o:=by
 cases o with
 | box c=>cases c<;>exact Iff.rfl
 | arr sz es=>cases es<;>simp[Obj.mapId,Backed,hk]
 | map kvs=>exact Iff.rfl
 | iter s n=>exact Iff.rfl
 | buf t s=>exact Iff.rfl
 | tb t l=>exact Iff.rfl
 | mit v n l u=>exact Iff.rfl
theorem qeV(h:Heap)(hj:get h j=none)(x:Nat):get (qeM i j h) x=if x=j then (get h i).map (Obj.mapId (jy i j)) else if x=i then none else (get h x).map (Obj.mapId (jy i j)):=by
 induction h with
 | nil=>simp[qeM,get]
 | cons kv r ih=>
  obtain⟨k,o⟩:=kv;have hkj:k≠j:=by rintro rfl;simp[get]at hj
  have hkj':Nat.beq k j=false:=by rw[Bool.eq_false_iff];exact fun e=>hkj (Nat.eq_of_beq_eq_true e)
  have hj':get r j=none:=by simpa[get,hkj']using hj
  simp only[qeM]
  cases hk:Nat.beq k i with
  | true=>
   have:=Nat.eq_of_beq_eq_true hk;subst this;simp only[get]
   by_cases hx:x=j
   ·subst hx;simp
   ·have hjx:Nat.beq j x=false:=by rw[Bool.eq_false_iff];exact fun e=>hx (Nat.eq_of_beq_eq_true e).symm
    simp only[hjx,ih hj',hx,if_false]
    by_cases hxk:x=k
    ·subst hxk;simp
    ·have:Nat.beq k x=false:=by rw[Bool.eq_false_iff];exact fun e=>hxk (Nat.eq_of_beq_eq_true e).symm
     simp[hxk,this]
  | false=>
   have hki:k≠i:=by rintro rfl;simp at hk
   simp only[get]
   cases hkx:Nat.beq k x with
   | true=>
    have:=Nat.eq_of_beq_eq_true hkx;subst this;simp[hkj,hki]
   | false=>simp only[ih hj',hk]
end
section
variable {σ : Type} {cx : Cx σ} {r : Option Nat} {m : List Nat} {L : Loc} {F : Nat -> Nat} {a : Act} {w : World} {e : Env} {h : Heap} {s : σ}
theorem Good.kill(hh:Good cx r m L F ⟨e,h,s⟩ a w)(d:Nat):Good cx r m L F ⟨jO (mapId (qy d)) e,jO (Obj.mapId (qy d)) h,s⟩ a w:=by
 have hg:∀ i o',get (jO (Obj.mapId (qy d)) h) i=some o' -> ∃ o0,get h i=some o0/\o'=Obj.mapId (qy d) o0:=by
  intro i o' hi;rw[qP]at hi
  cases h0:get h i with
  | none=>simp[h0]at hi
  | some o0=>simp[h0]at hi;exact⟨o0,rfl,hi.symm⟩
 refine⟨⟨hh.heap.hg,hh.heap.csz,hh.heap.fresh,?_,?_,?_⟩,?_,hh.dfr,hh.mks,hh.mnd,hh.lk,hh.pin,hh.tsz⟩
 ·intro i o' hi
  obtain⟨o0,h0,rfl⟩:=hg i o' hi;exact RepO.kill d i o0 (hh.heap.obj i o0 h0)
 ·intro i o' hi hb
  obtain⟨o0,h0,rfl⟩:=hg i o' hi;exact hh.heap.own i o0 h0 ((jo L d i o0).1 hb)
 ·intro i j o' p hi hj hbi hbj he
  obtain⟨o0,h0,rfl⟩:=hg i o' hi;obtain⟨p0,hp0,rfl⟩:=hg j p hj;exact hh.heap.inj i j o0 p0 h0 hp0 ((jo L d i o0).1 hbi) ((jo L d j p0).1 hbj) he
 ·intro t v ht
  simp only[qP]at ht
  cases h0:get e t with
  | none=>simp[h0]at ht
  | some v0=>
   simp[h0]at ht;subst ht;obtain⟨x,hx,hr⟩:=hh.env t v0 h0;exact⟨x,hx,RepV.kill d v0 x hr⟩
theorem Good.move(hh:Good cx r m L F ⟨e,h,s⟩ a w){i j:Nat}(hpj:¬ pinned j)(hij:i≠j)(hu:Unn ⟨get e,get h⟩ j) :
  Good cx r m ⟨fun x=>if x=j then L.ρ i else L.ρ x,fun x=>if x=j then L.κ i else L.κ x⟩ F ⟨jO (mapId (jy i j)) e,qeM i j h,s⟩ a w:=by
 have hj:((⟨fun x=>if x=j then L.ρ i else L.ρ x,fun x=>if x=j then L.κ i else L.κ x⟩:Loc).ρ j=L.ρ i/\(⟨fun x=>if x=j then L.ρ i else L.ρ x,fun x=>if x=j then L.κ i else L.κ x⟩:Loc).κ j=L.κ i):=by simp
 have hx:∀ x,x≠j->((⟨fun x=>if x=j then L.ρ i else L.ρ x,fun x=>if x=j then L.κ i else L.κ x⟩:Loc).ρ x=L.ρ x/\(⟨fun x=>if x=j then L.ρ i else L.ρ x,fun x=>if x=j then L.κ i else L.κ x⟩:Loc).κ x=L.κ x):=by
  intro x hx;simp[hx]
 generalize (⟨fun x=>if x=j then L.ρ i else L.ρ x,fun x=>if x=j then L.κ i else L.κ x⟩:Loc)=L' at hj hx ⊢;have hg:∀ x o',get (qeM i j h) x=some o' -> ∃ y o0,get h y=some o0/\o'=Obj.mapId (jy i j) o0/\(L'.ρ x=L.ρ y/\L'.κ x=L.κ y)/\((x=j/\y=i)\/(x≠j/\x≠i/\y=x)):=by
  intro x o' hi;rw[qeV h hu.none]at hi
  split at hi
  ·rename_i e1;subst e1
   cases h0:get h i with
   | none=>simp[h0]at hi
   | some o0=>simp[h0]at hi;exact⟨i,o0,h0,hi.symm,hj,.inl ⟨rfl,rfl⟩⟩
  ·rename_i e1
   split at hi
   ·cases hi
   ·rename_i e2
    cases h0:get h x with
    | none=>simp[h0]at hi
    | some o0=>simp[h0]at hi;exact⟨x,o0,h0,hi.symm,hx x e1,.inr ⟨e1,e2,rfl⟩⟩
 refine⟨⟨hh.heap.hg,hh.heap.csz,hh.heap.fresh,?_,?_,?_⟩,?_,hh.dfr,hh.mks,hh.mnd,hh.lk,fun x hp=>by
  have hxj:x≠j:=by rintro rfl;exact hpj hp
  rw[(hx x hxj).1,(hx x hxj).2];exact hh.pin x hp,hh.tsz⟩
 ·intro x o' hi
  obtain⟨y,o0,h0,rfl,hl,_⟩:=hg x o' hi;exact RepO.move hj hx hl o0 (hu.heap y o0 h0) (hh.heap.obj y o0 h0)
 ·intro x o' hi hb
  obtain⟨y,o0,h0,rfl,hl,_⟩:=hg x o' hi;rw[hl.1];exact hh.heap.own y o0 h0 ((qdT hl.2 o0).1 hb)
 ·intro x x' o' p hi hj' hbi hbj he
  obtain⟨y,o0,h0,rfl,hl,hy⟩:=hg x o' hi;obtain⟨z,p0,hp0,rfl,hl',hz⟩:=hg x' p hj';rw[hl.1,hl'.1]at he;have:=hh.heap.inj y z o0 p0 h0 hp0 ((qdT hl.2 o0).1 hbi) ((qdT hl'.2 p0).1 hbj) he
  rcases hy with⟨rfl,rfl⟩ | ⟨h1,h2,rfl⟩<;>rcases hz with⟨rfl,rfl⟩ | ⟨h3,h4,rfl⟩
  ·rfl
  ·exact absurd this.symm h4
  ·exact absurd this h2
  ·exact this
 ·intro t v ht
  simp only[qP]at ht
  cases h0:get e t with
  | none=>simp[h0]at ht
  | some v0=>
   simp[h0]at ht;subst ht;obtain⟨x,hx',hr⟩:=hh.env t v0 h0;exact⟨x,hx',RepV.move hj hx v0 x (hu.env t v0 h0) hr⟩
theorem qon{K:Env->Heap->Prop}:∀ (l:List Nat) {L:Loc} {e:Env} {h:Heap},(∀ d∈l,d<500000)->Good cx r m L F ⟨e,h,s⟩ a w->qki l e h K -> ∀ (B:Nat->Prop),(∀ d,B d->d<500000/\Unn ⟨get e,get h⟩ d) ->
  ∃ e' h' L',K e' h'/\Good cx r m L' F ⟨e',h',s⟩ a w /\ ∀ d,d∈l\/B d->Unn ⟨get e',get h'⟩ d
 | [],L,e,h,_,hg,hk,B,hB=>⟨e,h,L,hk,hg,fun d hd=>(hd.elim (fun h=>by cases h) fun h=>(hB d h).2)⟩
 | d::l,L,e,h,hl,hg,hk,B,hB=>by
  have hd:d<500000:=hl d (List.mem_cons_self ..);have kill:∀ k (e:Env) (h:Heap),(∀ x,Unn ⟨get e,get h⟩ x->Unn ⟨get (jO (mapId (qy k)) e),get (jO (Obj.mapId (qy k)) h)⟩ x) /\
    (get h k=none->Unn ⟨get (jO (mapId (qy k)) e),get (jO (Obj.mapId (qy k)) h)⟩ k):=by
   intro k e h;have hn:∀ x,(get h x=none)->(∀ y,x=y/\x≠k->¬ (∃ s v,get e s=some v/\qbs v y)/\¬ (∃ s v,get h s=some v/\qdx v y))->Unn ⟨get (jO (mapId (qy k)) e),get (jO (Obj.mapId (qy k)) h)⟩ x:=by
    intro x h0 hy;refine⟨by simp[qP,h0],fun t v ht hnm=>?_,fun t o ht hnm=>?_⟩
    ·simp only[qP]at ht
     cases h1:get e t with
     | none=>simp[h1]at ht
     | some v0=>
      simp[h1]at ht;subst ht;obtain⟨y,h2,h3⟩:=qdF (qjq k) v0 x hnm;exact(hy y h3).1 ⟨t,v0,h1,h2⟩
    ·simp only[qP]at ht
     cases h1:get h t with
     | none=>simp[h1]at ht
     | some v0=>
      simp[h1]at ht;subst ht;obtain⟨y,h2,h3⟩:=qfJ (qjq k) v0 x hnm;exact(hy y h3).2 ⟨t,v0,h1,h2⟩
   refine⟨fun x hx=>hn x hx.none fun y hy=>?_,fun h0=>hn k h0 fun y hy=>absurd rfl hy.2⟩;obtain⟨rfl,_⟩:=hy;exact⟨fun⟨t,v,h1,h2⟩=>hx.env t v h1 h2,fun⟨t,v,h1,h2⟩=>hx.heap t v h1 h2⟩
  have next:∀ (e2:Env) (h2:Heap) (L2:Loc),Good cx r m L2 F ⟨e2,h2,s⟩ a w->Unn ⟨get e2,get h2⟩ d->(∀ x,B x->Unn ⟨get e2,get h2⟩ x)->qki l e2 h2 K ->
    ∃ e' h' L',K e' h'/\Good cx r m L' F ⟨e',h',s⟩ a w /\ ∀ x,x∈d::l\/B x->Unn ⟨get e',get h'⟩ x:=by
   intro e2 h2 L2 hg2 hu2 hB2 hk2;obtain⟨e',h',L',k1,k2,k3⟩:=qon l (fun x hx=>hl x (List.mem_cons_of_mem _ hx)) hg2 hk2 (fun x=>x=d\/B x) (fun x hx=>by
    rcases hx with rfl | hx
    ·exact⟨hd,hu2⟩
    ·exact⟨(hB x hx).1,hB2 x hx⟩)
   refine⟨e',h',L',k1,k2,fun x hx=>k3 x ?_⟩
   rcases hx with hx | hx
   ·rcases List.mem_cons.1 hx with rfl | hx
    ·exact .inr (.inl rfl)
    ·exact .inl hx
   ·exact .inr (.inr hx)
  have hk:(match get h d with
   | none=>jR (jO (mapId (qy d)) e) fun e=>qbd (jO (Obj.mapId (qy d)) h) fun h=>qki l e h K
   | some _=>jR (jO (mapId (jy d (500000+d))) (jO (mapId (qy (500000+d))) e)) fun e=>
    qbd (qeM d (500000+d) (jO (Obj.mapId (qy (500000+d))) (cut h (500000+d)))) fun h=>qki l e h K):=hk
  split at hk
  ·rename_i h0
   rw[qah,qaE]at hk;exact next _ _ L (hg.kill d) ((kill d e h).2 h0) (fun x hx=>(kill d e h).1 x (hB x hx).2) hk
  ·rename_i hk1 _ o0 h0
   clear hk1;rw[qah,qaE]at hk;have hg1:Good cx r m L F ⟨e,cut h (500000+d),s⟩ a w:=hg.sub (fun _ _ h=>h) fun i o hi=>by
    rw[zV]at hi
    split at hi
    ·cases hi
    ·exact hi
   have hg2:=hg1.kill (500000+d);have hu:=(kill (500000+d) e (cut h (500000+d))).2 (by simp[zV]);have hB1:∀ x,B x->Unn ⟨get e,get (cut h (500000+d))⟩ x:=fun x hx=>by
    have hu:=(hB x hx).2;have hsub:∀ i o,get (cut h (500000+d)) i=some o->get h i=some o:=fun i o hi=>by
     rw[zV]at hi
     split at hi
     ·cases hi
     ·exact hi
    refine⟨?_,hu.env,fun i o hi=>hu.heap i o (hsub i o hi)⟩
    cases hc:get (cut h (500000+d)) x with
    | none=>exact hc
    | some o=>have h1:=hsub x o hc;have h2:get h x=none:=hu.none;rw[h2]at h1;cases h1
   have hB2:=fun x hx=>(kill (500000+d) e (cut h (500000+d))).1 x (hB1 x hx);generalize jO (mapId (qy (500000+d))) e=e1 at hk hg2 hu hB2;generalize jO (Obj.mapId (qy (500000+d))) (cut h (500000+d))=h1 at hk hg2 hu hB2;have hu3:∀ x,x≠500000+d->(x=d\/Unn ⟨get e1,get h1⟩ x)->Unn ⟨get (jO (mapId (jy d (500000+d))) e1),get (qeM d (500000+d) h1)⟩ x:=by
    intro x hx hor;have hno:∀ y,(y=d/\x=500000+d)\/(y≠d/\x=y)->x≠d/\x=y:=by
     rintro y (⟨_,h⟩ | ⟨h,rfl⟩)
     ·exact absurd h hx
     ·exact⟨h,rfl⟩
    have hux:x≠d->Unn ⟨get e1,get h1⟩ x:=fun h=>hor.resolve_left h;refine⟨?_,fun t v ht hnm=>?_,fun t o ht hnm=>?_⟩
    ·show get (qeM d (500000+d) h1) x=none
     rw[qeV h1 hu.none,if_neg hx]
     split
     ·rfl
     ·rename_i hxd
      have:get h1 x=none:=(hux hxd).none;rw[this];rfl
    ·simp only[qP]at ht
     cases h1':get e1 t with
     | none=>simp[h1']at ht
     | some v0=>
      simp[h1']at ht;subst ht;obtain⟨y,h2,h3⟩:=qdF (qom d (500000+d)) v0 x hnm;obtain⟨h4,rfl⟩:=hno y h3;exact(hux h4).env t v0 h1' h2
    ·have ht:get (qeM d (500000+d) h1) t=some o:=ht
     rw[qeV h1 hu.none]at ht;have:∃ y o0,get h1 y=some o0/\o=Obj.mapId (jy d (500000+d)) o0:=by
      split at ht
      ·cases h1':get h1 d with
       | none=>simp[h1']at ht
       | some v0=>simp[h1']at ht;exact⟨d,v0,h1',ht.symm⟩
      ·split at ht
       ·cases ht
       ·cases h1':get h1 t with
        | none=>simp[h1']at ht
        | some v0=>simp[h1']at ht;exact⟨t,v0,h1',ht.symm⟩
     obtain⟨z,o0,h1',rfl⟩:=this;obtain⟨y,h2,h3⟩:=qfJ (qom d (500000+d)) o0 x hnm;obtain⟨h4,rfl⟩:=hno y h3;exact(hux h4).heap z o0 h1' h2
   have hg3:=hg2.move (i:=d) (j:=500000+d) (by unfold pinned;omega) (by omega) hu;exact next _ _ _ hg3 (hu3 d (by omega) (.inl rfl)) (fun x hx=>hu3 x (by have:=(hB x hx).1;omega) (.inr (hB2 x hx))) hk
end
end Go.PX
namespace Go.PX
open Go.RowKit
structure RecOk(P:Program)(ops:Array Oper)(ots:List OT)(q:Rec):Prop where
 op:∃ o t,ops[q.idx]?=some o/\ots[q.idx]?=some t/\q.prs=t.prs/\(∀ x∈qfI q.ws,o.dst=some x)/\(∀ x v,get q.e x=some v->x∈t.ts)
 hk:∀ x v,get q.h x=some v->x∈q.os
 news:qaq q.ws=true
 snd:qky P ops q
theorem apart_spec{a b:OO}(h:apart a b=true):disj a.mo b.os=true/\disj a.mo b.mo=true/\disj b.mo a.os=true/\disj b.nw a.men=true:=by
 unfold apart at h
 split at h
 ·rename_i h1 h2 h3 h4;exact⟨h1,h2,h3,h4⟩
 ·cases h
theorem qeW{o:OO}{acc:List OO}:∀ {l:List Nat},qcM o acc l=true -> ∀ i∈l,∀ p,acc[i]?=some p->apart o p=true
 | [],_,i,hi,_,_=>by cases hi
 | k::r,h,i,hi,p,hp=>by
  simp only[qcM]at h
  split at h
  case h_2=>cases h
  rename_i p' hp'
  split at h
  case h_2=>cases h
  rename_i hap
  rcases List.mem_cons.1 hi with rfl | hi
  ·rw[hp]at hp';cases hp';exact hap
  ·exact qeW h i hi p hp
theorem qhe{mk:List Nat}:∀ {acc:List OO},qgL mk acc=true -> ∀ p∈acc,disj mk p.men=true/\disj mk p.mo=true
 | [],_,p,hp=>by cases hp
 | q::r,h,p,hp=>by
  simp only[qgL]at h
  split at h
  case h_2=>cases h
  rename_i h1 h2
  rcases List.mem_cons.1 hp with rfl | hp
  ·exact⟨h1,h2⟩
  ·exact qhe h p hp
theorem qcW{α:Type}:∀ (l:List Nat) (t:Tab α) (s:Nat) (u:α),get (qL l t) s=some u->s∈l
 | l,[],s,u,h=>by cases h
 | l,(k,v)::r,s,u,h=>by
  simp only[qL]at h
  split at h
  ·rename_i hk
   simp only[get]at h
   split at h
   ·rename_i he;have:=Nat.eq_of_beq_eq_true he;subst this;exact qbl.1 hk
   ·exact qcW l r s u h
  ·exact qcW l r s u h
theorem qaX{d:Option Nat}:∀ {ws:List Wr},qeL d ws=true -> ∀ x∈qfI ws,d=some x
 | [],_,x,hx=>by cases hx
 | w::r,h,x,hx=>by
  cases w with
  | set s v=>
   simp only[qeL]at h
   split at h
   case h_2=>cases h
   rename_i k
   split at h
   case h_2=>cases h
   rename_i hk;simp only[qfI,List.mem_cons]at hx
   rcases hx with rfl | hx
   ·rw[Nat.eq_of_beq_eq_true hk]
   ·exact qaX h x hx
  | _=>exact qaX (ws:=r) h x hx
theorem guardK_u{ops:Array Oper}{e:Env}{guard:Option (Nat×Bool)}{X Z:List Wr->Prop}(hk:qei ops.toList e guard X Z) :
  ∃ (b:Bool) (ws:List Wr),((b=true/\X ws)\/(b=false/\Z ws))/\(ws = [] \/ ∃ d v,ws = [.set d v]/\get e d=some v) /\
   ∀ {σ:Type} {cx:Cx σ} {r:Option Nat} {m:List Nat} {L:Loc} {F:Nat->Nat} {st:St σ} {a:Act} {w:World} {dst:Option Nat} {op:Op} {ty:TypeId} {pos:String} {after:Array Edge},
    qaA e st.env->Good cx r m L F st a w->Region.wanted ⟨dst,op,ty,pos,after,guard⟩ (yielded ops a.tmps)=b:=by
 unfold qei at hk
 split at hk
 ·exact⟨true,[],.inl ⟨rfl,hk⟩,.inl rfl,fun _ _=>rfl⟩
 ·rename_i j want
  split at hk
  case h_2=>exact hk.elim
  rename_i d _ _ _ _ _ hj;have hj':(ops[j]?).bind (·.dst)=some d:=by
   rw[Array.getElem?_toList]at hj;rw[hj];rfl
  split at hk
  ·rename_i b hb
   have hy:∀ {σ:Type} {cx:Cx σ} {r:Option Nat} {m:List Nat} {L:Loc} {F:Nat->Nat} {st:St σ} {a:Act} {w:World},qaA e st.env->Good cx r m L F st a w->yielded ops a.tmps j=some b:=by
    intro σ cx r m L F st a w he hg;obtain⟨x,hx,hr⟩:=hg.env d _ (he _ _ hb);have hr:x = .bool b:=hr;subst hr;unfold yielded;rw[hj'];simp[hx]
   split at hk
   ·rcases qji hk with⟨rfl,hk⟩ | ⟨rfl,hk⟩
    ·exact⟨true,_,.inl ⟨rfl,hk⟩,.inr ⟨d,_,rfl,hb⟩,fun he hg=>by simp[Region.wanted,hy he hg]⟩
    ·exact⟨false,_,.inr ⟨rfl,hk⟩,.inr ⟨d,_,rfl,hb⟩,fun he hg=>by simp[Region.wanted,hy he hg]⟩
   ·rcases qji hk with⟨rfl,hk⟩ | ⟨rfl,hk⟩
    ·exact⟨false,_,.inr ⟨rfl,hk⟩,.inr ⟨d,_,rfl,hb⟩,fun he hg=>by simp[Region.wanted,hy he hg]⟩
    ·exact⟨true,_,.inl ⟨rfl,hk⟩,.inr ⟨d,_,rfl,hb⟩,fun he hg=>by simp[Region.wanted,hy he hg]⟩
  ·rename_i hb
   refine⟨false,[],.inr ⟨rfl,hk⟩,.inl rfl,fun {σ cx r m L F st a w} _ _ _ _ _ he hg=>?_⟩;obtain⟨x,hx,l,rfl,hl⟩:=hg.env d _ (he _ _ hb);have hy:yielded ops a.tmps j=none:=by
    unfold yielded;rw[hj'];simp[hx]
   simp[Region.wanted,hy]
  ·exact hk.elim
theorem fs_learn{σ:Type}{e:Env}{h:Heap}{s:σ}{ws:List Wr}(hw:ws = [] \/ ∃ d v,ws = [.set d v]/\get e d=some v):qaO (qx (⟨e,h,s⟩:St σ) ws)=⟨get e,get h⟩:=by
 rcases hw with rfl | ⟨d,v,rfl,hv⟩
 ·rfl
 ·simp only[qaO,qx,ze]
  congr 1
  funext x
  rw[jn]
  split
  ·rename_i he;subst he;exact hv.symm
  ·rfl
theorem wpD_cons(P:Program)(T:Tys)(made:List Nat)(ops:List Oper)(dst:Option Nat)(op:Op)(ty:TypeId)(pos:String)(after:Array Edge)(guard:Option (Nat×Bool))(ts prs:List Nat)(l:List (Oper×OT))(acc:List OO)(e:Env)(h:Heap)(K:Env->Heap->Prop) :
  wpD P T made ops ((⟨dst,op,ty,pos,after,guard⟩,⟨ts,prs⟩)::l) acc e h K=(js (qlJ op e h ts) fun os=>jR (qL ts e) fun e'=>qbd (qL os h) fun h'=>
    qei ops e' guard
     (fun w=>
      let go:=fun ws=>js (jf ws) fun mo=>js (zo ws) fun mk=>js (zA ws) fun men=>
       chk (qdw dst made acc prs ws ⟨os,mo,mk,men⟩) (qO w e h fun e h=>qO (qlK ws) e h fun e h=>wpD P T made ops l (acc ++ [⟨os,mo,mk,men⟩]) e h K)
      match op with
      | .call ⟨callee,args,tys⟩=>match callee with
       | .builtin b=>jH T e' h' dst b args tys go
       | .value f=>match opnd e' f,opnds e' args.toList with
        | some (.d (.clo g caps)),some l=>DrawCall P e' h' dst g (l++inj caps) go
        | some (.clo g caps),some l=>DrawCall P e' h' dst g (l++caps) go
        | _,_=>False
       | .invoke f name=>match opnd e' f,opnds e' args.toList with
        | some (.d (.ifc t v)),some l=>InvA P t name fun g=>DrawCall P e' h' dst g (.d v::l) go
        | _,_=>False
      | op=>opK T e' h' dst op go)
     (fun w=>chk (qcM ⟨os,[],[],[]⟩ acc prs) (qO w e h fun e h=>qO (wset dst (.d (.tup []))) e h fun e h=>wpD P T made ops l (acc ++ [⟨os,[],[],[]⟩]) e h K))):=rfl
section
variable {P : Program} {T : Tys}
theorem qkB{ops:Array Oper}{q:Rec}{o:Oper}(ho:ops[q.idx]?=some o)
  (hw:∀ {σ:Type} {cx:Cx σ} {r:Option Nat} {m:List Nat} {L:Loc} {F:Nat->Nat} {st:St σ} {a:Act} {w:World},qaA q.e st.env->Good cx r m L F st a w->Region.wanted o (yielded ops a.tmps)=true)
  (hout:Out P q.e q.h o q.ws) (hnd:∀ c,o.op ≠ .defer c):qky P ops q:=by
 intro σ cx hld r m L F st a w he hh hg hd next Q hn
 simp only[wpOpIn,ho];rw[if_pos (hw he hg)];exact qmB hout he hh hg (hd o ho) hnd fun x L' F' w' hg' tr=>hn _ L' F' w' (jK x) hg' tr
theorem opSnd_inv{ops:Array Oper}{q:Rec}{dst:Option Nat}{f:Operand}{n:String}{args:Array Operand}{tys:Array TypeId}{ty:TypeId}{pos:String}{after:Array Edge}{guard:Option (Nat×Bool)}
  (ho:ops[q.idx]?=some ⟨dst,.call ⟨.invoke f n,args,tys⟩,ty,pos,after,guard⟩)
  (hw:∀ {σ:Type} {cx:Cx σ} {r:Option Nat} {m:List Nat} {L:Loc} {F:Nat->Nat} {st:St σ} {a:Act} {w:World},qaA q.e st.env->Good cx r m L F st a w->Region.wanted ⟨dst,.call ⟨.invoke f n,args,tys⟩,ty,pos,after,guard⟩ (yielded ops a.tmps)=true)
  {t:TypeId} {v:D} {g:FuncId} {l':List V} (hl:opnds q.e args.toList=some l') (hf:opnd q.e f=some (.d (.ifc t v)))
  (hm:∀ v w,(method (P.types.size+Made.depth) t v n).run P w = .ok (g,v) w)
  (hout:qdu P q.e q.h dst g (.d v::l') q.ws):qky P ops q:=by
 intro σ cx hld r m L F st a w he hh hg hd next Q hn
 simp only[wpOpIn,ho];rw[if_pos (hw he hg)];obtain⟨hent,hcall⟩:=hout;have hg':Good cx r m L F ⟨q.e,st.heap,st.s⟩ a w:=hg.sub he (fun _ _ h=>h);obtain⟨y,hev,hv⟩:=hg'.opnd hf;have hargs:=qmC hg' hl hv;have hcall:=hcall cx hld r m L F st a w (#[y]++args.map a.eval) he hh hg (hd _ ho) hargs;refine⟨fun _ _=>trivial,?_⟩;rw[Oper.semAt_eq _ _ _ (fun c e=>by cases e),qok hm hent hev,Oper.uponIn_enter];refine⟨(fun h=>by cases h),(qbC hcall).mono ?_⟩;rintro en w' ⟨x,rfl,L',F',hg',tr'⟩;exact hn _ L' F' w' (jK x) hg' tr'
theorem qis{ops:Array Oper}{q:Rec}{dst:Option Nat}{f:Operand}{args:Array Operand}{tys:Array TypeId}{ty:TypeId}{pos:String}{after:Array Edge}{guard:Option (Nat×Bool)}
  (ho:ops[q.idx]?=some ⟨dst,.call ⟨.value f,args,tys⟩,ty,pos,after,guard⟩)
  (hw:∀ {σ:Type} {cx:Cx σ} {r:Option Nat} {m:List Nat} {L:Loc} {F:Nat->Nat} {st:St σ} {a:Act} {w:World},qaA q.e st.env->Good cx r m L F st a w->Region.wanted ⟨dst,.call ⟨.value f,args,tys⟩,ty,pos,after,guard⟩ (yielded ops a.tmps)=true)
  {g:FuncId} {capv:List V} {l':List V} (hl:opnds q.e args.toList=some l')
  (hf:∀ {σ:Type} {cx:Cx σ} {r:Option Nat} {m:List Nat} {L:Loc} {F:Nat->Nat} {st:St σ} {a:Act} {w:World},qaA q.e st.env->Good cx r m L F st a w -> ∃ lc:Array Value,a.eval f = .func (.func g) #[] lc/\RepVL cx.yv L F w capv lc.toList)
  (hout:qdu P q.e q.h dst g (l'++capv) q.ws):qky P ops q:=by
 intro σ cx hld r m L F st a w he hh hg hd next Q hn
 simp only[wpOpIn,ho];rw[if_pos (hw he hg)];obtain⟨lc,hev,hcap⟩:=hf he hg;obtain⟨hent,hcall⟩:=hout;have hl1:∃ vs:List Value,RepVL cx.yv L F w l' (args.toList.map a.eval):=⟨[],by
  have hg':Good cx r m L F ⟨q.e,st.heap,st.s⟩ a w:=hg.sub he (fun _ _ h=>h);exact hg'.opnds hl⟩
 obtain⟨_,hl1⟩:=hl1;have hargs:RepVL cx.yv L F w (l'++capv) (args.map a.eval++lc).toList:=by
  simpa using hl1.append hcap
 have hcall:=hcall cx hld r m L F st a w (args.map a.eval++lc) he hh hg (hd _ ho) hargs;have hrun:(execOp a.eval ⟨dst,.call ⟨.value f,args,tys⟩,ty,pos,after,guard⟩).run P w = .ok (.enter g (args.map a.eval++lc)) w:=by
  simp[execOp,resolve,Deferred.ofValue,hev,invoke,hent]
 refine⟨fun _ _=>trivial,?_⟩;rw[Oper.semAt_eq _ _ _ (fun c e=>by cases e),hrun,Oper.uponIn_enter];refine⟨(fun h=>by cases h),(qbC hcall).mono ?_⟩;rintro en w' ⟨x,rfl,L',F',hg',tr'⟩;exact hn _ L' F' w' (jK x) hg' tr'
theorem opSnd_skip{ops:Array Oper}{q:Rec}{o:Oper}(ho:ops[q.idx]?=some o)(hws:q.ws=wset o.dst (.d (.tup [])))
  (hw:∀ {σ:Type} {cx:Cx σ} {r:Option Nat} {m:List Nat} {L:Loc} {F:Nat->Nat} {st:St σ} {a:Act} {w:World},qaA q.e st.env->Good cx r m L F st a w->Region.wanted o (yielded ops a.tmps)=false):qky P ops q:=by
 intro σ cx hld r m L F st a w he hh hg hd next Q hn
 simp only[wpOpIn,ho];rw[if_neg (by rw[hw he hg];simp)];refine⟨fun _ _=>trivial,?_⟩;refine hn _ L F w (jK _) ?_ (Tr.refl F w);rw[hws];exact hg.wset (x:=undef) (hd o ho) ⟨#[],rfl,rfl⟩
theorem qqG(hT:qT P T){ops:Array Oper}{ots:List OT}{made:List Nat}(hpairs:qhb ops.toList ots ops.toList ots=true):∀ (l:List (Oper×OT)) (acc:List Rec),(∀ j p,l[j]?=some p->ops[acc.length+j]?=some p.1/\ots[acc.length+j]?=some p.2) ->
  (∀ k q,acc[k]?=some q->q.idx=k/\RecOk P ops ots q)->acc.Pairwise Pr -> ∀ {e:Env} {h:Heap} {K:Env->Heap->Prop},wpD P T made ops.toList l (acc.map Rec.oo) e h K ->
  ∃ (R:List Rec) (eN:Env) (hN:Heap),K eN hN/\RunR R ⟨get e,get h⟩ ⟨get eN,get hN⟩/\R.length=l.length/\(∀ k q,(acc++R)[k]?=some q->q.idx=k/\RecOk P ops ots q)/\(acc++R).Pairwise Pr /\ ∀ q∈R,∀ x∈zo q.ws,x∈made
 | [],acc,_,hacc,hpw,e,h,K,hk=>⟨[],e,h,hk,rfl,rfl,by simpa using hacc,by simpa using hpw,fun q hq=>by cases hq⟩
 | (⟨dst,op,ty,pos,after,guard⟩,⟨ts,prs⟩)::l,acc,hl,hacc,hpw,e,h,K,hk=>by
  obtain⟨ho,hot⟩:=hl 0 (⟨dst,op,ty,pos,after,guard⟩,⟨ts,prs⟩) rfl;simp only[Nat.add_zero]at ho hot;have hl':∀ j p,l[j]?=some p->ops[acc.length+1+j]?=some p.1/\ots[acc.length+1+j]?=some p.2:=fun j p hp=>by
   have:=hl (j+1) p (by simpa using hp)
   rwa [show acc.length+(j+1)=acc.length+1+j by omega]at this
  rw[wpD_cons]at hk;rw[qdE,qah,qaE]at hk;generalize hos:qlJ op e h ts=os at hk;obtain⟨b,lw,hcase,hlearn,hwant⟩:=guardK_u hk;clear hk;have hlearn':lw = [] \/ ∃ d v,lw = [.set d v]/\get e d=some v:=hlearn.imp id fun⟨d,v,h1,h2⟩=>⟨d,v,h1,jT ts e d v h2⟩;have rest:∀ (ws:List Wr),qaq ws=true->qeL dst ws=true->(∀ x∈zo ws,x∈made)->qcM ⟨os,jf ws,zo ws,zA ws⟩ (acc.map Rec.oo) prs=true->qgL (zo ws) (acc.map Rec.oo)=true ->
    qky P ops ⟨acc.length,qL ts e,qL os h,os,ws,prs⟩->(qO lw e h fun e h=>qO (qlK ws) e h fun e h=>wpD P T made ops.toList l (acc.map Rec.oo ++ [⟨os,jf ws,zo ws,zA ws⟩]) e h K) ->
    ∃ (R:List Rec) (eN:Env) (hN:Heap),K eN hN/\RunR R ⟨get e,get h⟩ ⟨get eN,get hN⟩/\R.length=l.length+1/\(∀ k q,(acc++R)[k]?=some q->q.idx=k/\RecOk P ops ots q)/\(acc++R).Pairwise Pr /\ ∀ q∈R,∀ x∈zo q.ws,x∈made:=by
   intro ws hnews hsets hmade hap hnew hsnd hk;rw[zx (),zx ()]at hk;have hfs:=fs_learn (s:=()) (h:=h) hlearn';generalize (qx (⟨e,h,()⟩:St Unit) lw)=st1 at hk hfs;have hfs2:=qmD ws (⟨st1.env,st1.heap,()⟩:St Unit);generalize (qx (⟨st1.env,st1.heap,()⟩:St Unit) (qlK ws))=st2 at hk hfs2;have hfs3:(⟨get st2.env,get st2.heap⟩:Fs)=appFs ⟨get e,get h⟩ ws:=by
    rw[<- hfs];exact hfs2
   have hq:RecOk P ops ots ⟨acc.length,qL ts e,qL os h,os,ws,prs⟩:=
    ⟨⟨_,_,ho,hot,rfl,qaX hsets,fun x v hx=>qcW ts e x v hx⟩,fun x v hx=>qcW os h x v hx,hnews,hsnd⟩
   have hpr:∀ p∈acc,Pr p ⟨acc.length,qL ts e,qL os h,os,ws,prs⟩:=by
    intro p hp;obtain⟨k,hk',hkp⟩:=List.mem_iff_getElem.1 hp;have hkp':acc[k]?=some p:=by rw[List.getElem?_eq_getElem hk',hkp]
    obtain⟨hidx,hpok⟩:=hacc k p hkp';have hmem:p.oo∈acc.map Rec.oo:=List.mem_map.2 ⟨p,hp,rfl⟩;obtain⟨hn1,hn2⟩:=qhe hnew p.oo hmem;have hn1:=qaF hn1;have hn2:=qaF hn2;refine⟨by show p.idx<acc.length;omega,fun hin=>?_,hn1,hn2⟩;have hin:p.idx∈prs:=hin;have ha:=apart_spec (qeW hap p.idx hin p.oo (by rw[hidx,List.getElem?_map,hkp'];rfl));have a1:=qaF ha.1;have a2:=qaF ha.2.1;have a3:=qaF ha.2.2.1;have a4:=qaF ha.2.2.2;obtain⟨po,pt,hpo,hpt,hpprs,hpsets,hpkeys⟩:=hpok.op;obtain⟨o1,t1,ho1,ht1,d1,d2,d3⟩:=qhc (qgc hpairs acc.length _ _ (by simpa using ho) hot) p.idx hin;have ho1':ops[p.idx]?=some o1:=by simpa using ho1
    rw[hpo]at ho1';cases ho1';rw[hpt]at ht1;cases ht1;have none_of:∀ {α:Type} {t:Tab α} {x:Nat},(∀ v,get t x=some v->False)->get t x=none:=by
     intro α t x hx
     cases hc:get t x with
     | none=>rfl
     | some v=>exact(hx v hc).elim
    refine⟨⟨fun x hx=>?_,fun x hx=>?_,fun x hx hx'=>?_,fun x hx hx'=>?_,fun x hx=>a4 x hx⟩,⟨fun x hx=>?_,fun x hx=>?_,fun x hx hx'=>?_,fun x hx hx'=>?_,fun x hx=>hn1 x hx⟩⟩
    ·exact none_of fun v hv=>d1 x (hpsets x hx) (qcW ts e x v hv)
    ·exact none_of fun v hv=>a3 x hx (qcW os h x v hv)
    ·exact d3 x (hpsets x hx) (qaX hsets x hx')
    ·exact a2 x hx' hx
    ·exact none_of fun v hv=>d2 x (qaX hsets x hx) (hpkeys x v hv)
    ·exact none_of fun v hv=>a1 x hx (hpok.hk x v hv)
    ·exact d3 x (hpsets x hx') (qaX hsets x hx)
    ·exact a2 x hx hx'
   have hacc':∀ k q,(acc ++ [(⟨acc.length,qL ts e,qL os h,os,ws,prs⟩:Rec)])[k]?=some q->q.idx=k/\RecOk P ops ots q:=by
    intro k q hkq
    rcases Nat.lt_trichotomy k acc.length with hlt | heq | hgt
    ·rw[List.getElem?_append_left hlt]at hkq
     exact hacc k q hkq
    ·subst heq
     simp at hkq;subst hkq;exact⟨rfl,hq⟩
    ·rw[List.getElem?_eq_none (by simp;omega)]at hkq
     cases hkq
   have hpw':(acc ++ [(⟨acc.length,qL ts e,qL os h,os,ws,prs⟩:Rec)]).Pairwise Pr:=
    List.pairwise_append.2 ⟨hpw,List.pairwise_singleton _ _,fun x hx y hy=>by
     rcases List.mem_singleton.1 hy with rfl
     exact hpr x hx⟩
   obtain⟨R,eN,hN,k1,k2,k3,k4,k5,k6⟩:=qqG hT hpairs l (acc ++ [⟨acc.length,qL ts e,qL os h,os,ws,prs⟩]) (by simpa using hl') hacc' hpw' (e:=st2.env) (h:=st2.heap) (K:=K) (by simpa[Rec.oo]using hk);refine⟨⟨acc.length,qL ts e,qL os h,os,ws,prs⟩::R,eN,hN,k1,⟨⟨fun s v hs=>jT ts e s v hs,fun s v hs=>jT os h s v hs⟩,?_⟩,by simp[k3],?_,?_,?_⟩
   ·rw[<- hfs3];exact k2
   ·simpa using k4
   ·simpa using k5
   ·intro q hq x hx
    rcases List.mem_cons.1 hq with rfl | hq
    ·exact hmade x hx
    ·exact k6 q hq x hx
  rcases hcase with⟨rfl,hk⟩ | ⟨rfl,hk⟩
  ·
   have fin:∀ (ws:List Wr),qky P ops ⟨acc.length,qL ts e,qL os h,os,ws,prs⟩->(js (jf ws) fun mo=>js (zo ws) fun mk=>js (zA ws) fun men=>
       chk (qdw dst made (acc.map Rec.oo) prs ws ⟨os,mo,mk,men⟩) (qO lw e h fun e h=>qO (qlK ws) e h fun e h=>wpD P T made ops.toList l (acc.map Rec.oo ++ [⟨os,mo,mk,men⟩]) e h K)) ->
     ∃ (R:List Rec) (eN:Env) (hN:Heap),K eN hN/\RunR R ⟨get e,get h⟩ ⟨get eN,get hN⟩/\R.length=l.length+1/\(∀ k q,(acc++R)[k]?=some q->q.idx=k/\RecOk P ops ots q)/\(acc++R).Pairwise Pr /\ ∀ q∈R,∀ x∈zo q.ws,x∈made:=by
    intro ws hsnd hk;rw[qdE,qdE,qdE]at hk;obtain⟨hc,hk⟩:=zw hk;unfold qdw at hc
    split at hc
    case h_2=>cases hc
    rename_i c1 c2 c3 c4 c5;exact rest ws c4 c5 (qkw c3) c1 c2 hsnd hk
   by_cases hcall:∃ c,op = .call c
   ·obtain⟨⟨callee,args,tys⟩,rfl⟩:=hcall
    cases callee with
    | builtin bu=>
     obtain⟨ws,hk,hout⟩:=qga (P:=P) (ty:=ty) (pos:=pos) (after:=after) (guard:=guard) hT hk;exact fin ws (qkB (q:=⟨acc.length,qL ts e,qL os h,os,ws,prs⟩) ho (fun he hg=>hwant he hg) hout (fun c e=>by cases e)) hk
    | invoke f n=>
     have hk:(match opnd (qL ts e) f,opnds (qL ts e) args.toList with
        | some (.d (.ifc t v)),some l'=>InvA P t n fun g=>DrawCall P (qL ts e) (qL os h) dst g (.d v::l') (fun ws=>js (jf ws) fun mo=>js (zo ws) fun mk=>js (zA ws) fun men=>
       chk (qdw dst made (acc.map Rec.oo) prs ws ⟨os,mo,mk,men⟩) (qO lw e h fun e h=>qO (qlK ws) e h fun e h=>wpD P T made ops.toList l (acc.map Rec.oo ++ [⟨os,mo,mk,men⟩]) e h K))
        | _,_=>False):=hk
     split at hk
     case h_2=>exact hk.elim
     rename_i t v l' hf hl1;obtain⟨g,hm,ws,hk,hout⟩:=hk;exact fin ws (opSnd_inv (q:=⟨acc.length,qL ts e,qL os h,os,ws,prs⟩) ho (fun he hg=>hwant he hg) hl1 hf hm hout) hk
    | value f=>
     have hk:(match opnd (qL ts e) f,opnds (qL ts e) args.toList with
        | some (.d (.clo g caps)),some l'=>DrawCall P (qL ts e) (qL os h) dst g (l'++inj caps) (fun ws=>js (jf ws) fun mo=>js (zo ws) fun mk=>js (zA ws) fun men=>
       chk (qdw dst made (acc.map Rec.oo) prs ws ⟨os,mo,mk,men⟩) (qO lw e h fun e h=>qO (qlK ws) e h fun e h=>wpD P T made ops.toList l (acc.map Rec.oo ++ [⟨os,mo,mk,men⟩]) e h K))
        | some (.clo g caps),some l'=>DrawCall P (qL ts e) (qL os h) dst g (l'++caps) (fun ws=>js (jf ws) fun mo=>js (zo ws) fun mk=>js (zA ws) fun men=>
       chk (qdw dst made (acc.map Rec.oo) prs ws ⟨os,mo,mk,men⟩) (qO lw e h fun e h=>qO (qlK ws) e h fun e h=>wpD P T made ops.toList l (acc.map Rec.oo ++ [⟨os,mo,mk,men⟩]) e h K))
        | _,_=>False):=hk
     split at hk
     ·rename_i g caps l' hf hl1
      obtain⟨ws,hk,hout⟩:=hk;refine fin ws (qis (q:=⟨acc.length,qL ts e,qL os h,os,ws,prs⟩) ho (fun he hg=>hwant he hg) hl1 (fun {σ cx r m L F st a w} he hg=>?_) hout) hk;have hg':Good cx r m L F ⟨qL ts e,st.heap,st.s⟩ a w:=hg.sub he (fun _ _ h=>h);obtain⟨lc,hev,hcap⟩:=hg'.opnd hf;exact⟨lc,hev,RepVL.inj.2 hcap⟩
     ·rename_i g caps l' hf hl1
      obtain⟨ws,hk,hout⟩:=hk;refine fin ws (qis (q:=⟨acc.length,qL ts e,qL os h,os,ws,prs⟩) ho (fun he hg=>hwant he hg) hl1 (fun {σ cx r m L F st a w} he hg=>?_) hout) hk;have hg':Good cx r m L F ⟨qL ts e,st.heap,st.s⟩ a w:=hg.sub he (fun _ _ h=>h);obtain⟨lc,hev,hcap⟩:=hg'.opnd hf;exact⟨lc,hev,hcap⟩
     ·exact hk.elim
   ·have hk:opK T (qL ts e) (qL os h) dst op (fun ws=>js (jf ws) fun mo=>js (zo ws) fun mk=>js (zA ws) fun men=>
       chk (qdw dst made (acc.map Rec.oo) prs ws ⟨os,mo,mk,men⟩) (qO lw e h fun e h=>qO (qlK ws) e h fun e h=>wpD P T made ops.toList l (acc.map Rec.oo ++ [⟨os,mo,mk,men⟩]) e h K)):=by
     cases op<;>first | exact hk | exact absurd ⟨_,rfl⟩ hcall
    have hnd:∀ c,op ≠ .defer c:=fun c hc=>by subst hc;exact hk
    obtain⟨ws,hk,hout⟩:=qlN (P:=P) (ty:=ty) (pos:=pos) (after:=after) (guard:=guard) hT hk;exact fin ws (qkB (q:=⟨acc.length,qL ts e,qL os h,os,ws,prs⟩) ho (fun he hg=>hwant he hg) hout hnd) hk
  ·obtain⟨hc,hk⟩:=zw hk
   have h0:jf (wset dst (.d (.tup []))) = []/\zo (wset dst (.d (.tup []))) = []/\zA (wset dst (.d (.tup []))) = []/\qaq (wset dst (.d (.tup [])))=true/\qeL dst (wset dst (.d (.tup [])))=true/\qlK (wset dst (.d (.tup [])))=wset dst (.d (.tup [])):=by
    cases dst with
    | none=>simp[wset,jf,zo,zA,qaq,qeL,qlK]
    | some d=>simp[wset,jf,zo,zA,qaq,qeL,qlK,zp,disj]
   obtain⟨z1,z2,z3,z4,z5,z6⟩:=h0;refine rest (wset dst (.d (.tup []))) z4 z5 (by rw[z2];intro x hx;cases hx) (by rw[z1,z2,z3];exact hc) (by
    rw[z2];have:∀ acc:List OO,qgL [] acc=true:=by
     intro acc
     induction acc with
     | nil=>rfl
     | cons p r ih=>simp[qgL,disj,ih]
    exact this _) (opSnd_skip (q:=⟨acc.length,qL ts e,qL os h,os,wset dst (.d (.tup [])),prs⟩) ho rfl (fun he hg=>hwant he hg)) ?_
   rw[z1,z2,z3,z6];exact hk
theorem drawOk_of(hm:P.follows .mixedOrders=true)(hT:qT P T){ops:Array Oper}{rt:RT}(hst:qkA ops.toList rt=true):qpM P T ops rt:=by
 intro σ cx hld r m L F e h s a w K hg hd hk id;have hst':=hst;simp only[qkA,Bool.and_eq_true]at hst';obtain⟨⟨⟨⟨hlen,hback⟩,hahead⟩,hpairs⟩,hmade⟩:=hst';have hlen:=Nat.eq_of_beq_eq_true hlen;obtain⟨e1,h1,L1,hk,hg1,hu⟩:=qon rt.made (fun d hd'=>by
  have:=List.all_eq_true.1 hmade d hd';exact Nat.le_of_ble_eq_true this) hg hk (fun _=>False) (fun _ h=>h.elim)
 obtain⟨R,eN,hN,k1,k2,k3,k4,k5,k6⟩:=qqG hT hpairs (ops.toList.zip rt.ots) [] (fun j p hp=>by
  have:=List.getElem?_zip_eq_some.1 hp;simpa using this) (fun k q hq=>by simp at hq) List.Pairwise.nil hk
 simp only[List.nil_append]at k4 k5;have hRl:R.length=ops.size:=by rw[k3,List.length_zip,hlen];simp[<- hlen]
 refine wpIn_region_any hm ?_;have tr0:Tr F w F { w with drawn:=w.drawn+1 }:=Tr.drew _;refine wpAny_run (cx:=cx) hld (r:=r) (m:=m) (s:=s) (n0:=a.tmps.size) (F0:=F) (w0:=w) (f':=⟨get eN,get hN⟩) hst hd (fun a' w' L' F' st hf hs hg' tr hn=>?_) ops.size (l:=R) (st:=⟨e1,h1,s⟩)
  ⟨k5,fun q hq=>?_,fun q hq=>?_,fun q hq=>?_⟩ (hg1.same (w':={ w with drawn:=w.drawn+1 }) rfl rfl rfl rfl) rfl tr0 rfl (fun q hq x hx=>hu x (.inl (k6 q hq x hx))) k2 (by omega) ⟨fun i=>?_,by simp,fun j o hj=>?_⟩
 ·refine⟨eN,hN,s,L',F',rfl,⟨k1,rfl⟩,?_,tr,hn⟩
  have he:get st.env=get eN:=congrArg Fs.env hf;have hh:get st.heap=get hN:=congrArg Fs.heap hf;have:=hg'.sub (e:=eN) (h:=hN) (fun x v hx=>by rw[he];exact hx) (fun x v hx=>by rw[hh];exact hx);rw[hs]at this;exact this
 ·obtain⟨k,hk',hkq⟩:=List.mem_iff_getElem.1 hq
  exact(k4 k q (by rw[List.getElem?_eq_getElem hk',hkq])).2.snd
 ·obtain⟨k,hk',hkq⟩:=List.mem_iff_getElem.1 hq
  exact(k4 k q (by rw[List.getElem?_eq_getElem hk',hkq])).2.news
 ·obtain⟨k,hk',hkq⟩:=List.mem_iff_getElem.1 hq
  obtain⟨o,t,h1,h2,h3,_⟩:=(k4 k q (by rw[List.getElem?_eq_getElem hk',hkq])).2.op;exact⟨t,h2,h3⟩
 ·rw[Array.getD_eq_getD_getElem?,Array.getElem?_replicate]
  constructor
  ·rintro ⟨q,hq,rfl⟩
   obtain⟨k,hk',hkq⟩:=List.mem_iff_getElem.1 hq;have:=(k4 k q (by rw[List.getElem?_eq_getElem hk',hkq])).1;rw[if_pos (by omega)];rfl
  ·intro hi
   by_cases hi':i<ops.size
   ·exact⟨R[i],List.getElem_mem ..,(k4 i R[i] (List.getElem?_eq_getElem (by omega))).1⟩
   ·rw[if_neg hi']at hi;simp at hi
 ·rw[Array.getD_eq_getD_getElem?,Array.getElem?_replicate]at hj
  split at hj<;>cases hj
def qbL(ft:FT):Code->Bool
 | .region id ops draw=>match draw with
  | false=>true
  | true=>match get ft.tb id with
   | none=>true
   | some rt=>qkA ops.toList rt
 | .seq a b=>qbL ft a&&qbL ft b
 | .cond _ a b=>qbL ft a&&qbL ft b
 | .block _ a=>qbL ft a
 | .loop a=>qbL ft a
 | .scope a=>qbL ft a
 | .rangeFunc _ _ a b=>qbL ft a&&qbL ft b
 | _=>true
theorem qi(hm:P.follows .mixedOrders=true)(hT:qT P T){ft:FT}:∀ {c:Code},qbL ft c=true->zO P T ft c
 | .region id ops draw,h=>by
  intro hd rt hrt;subst hd;simp only[qbL,hrt]at h;exact drawOk_of hm hT h
 | .seq a b,h=>by
  simp only[qbL,Bool.and_eq_true]at h;exact⟨qi hm hT h.1,qi hm hT h.2⟩
 | .cond _ a b,h=>by
  simp only[qbL,Bool.and_eq_true]at h;exact⟨qi hm hT h.1,qi hm hT h.2⟩
 | .block _ a,h=>qi (c:=a) hm hT h
 | .loop a,h=>qi (c:=a) hm hT h
 | .scope a,h=>qi (c:=a) hm hT h
 | .rangeFunc _ _ a b,h=>by
  simp only[qbL,Bool.and_eq_true]at h;exact⟨qi hm hT h.1,qi hm hT h.2⟩
 | .skip,_=>trivial
 | .exit _,_=>trivial
 | .label _,_=>trivial
 | .goto _,_=>trivial
 | .ret,_=>trivial
 | .refuse _,_=>trivial
end
end Go.PX
namespace Go.PX
open Go.RowKit
def qgd(tmps:Array Value)(r:ResultVar):Sem Value:=
 match r with
 | .tmp t=>pure (tmps.getD t undef)
 | .cell b t=>do loadVar t (<- asAddr (tmps.getD b undef))
theorem results_eq(fn:Func)(tmps:Array Value):results fn tmps=(do
  let vs <- fn.results.mapM (qgd tmps)
  pure (if h:vs.size=1 then vs[0] else .tuple vs)):=rfl
section
variable {P : Program} {T : Tys}
theorem qit(hT:qT P T){e:Env}{h:Heap}:∀ {rs:List ResultVar} {K:List V->Prop},qpI T e h rs K ->
  ∃ l,K l /\ ∀ {σ:Type} {cx:Cx σ} {r:Option Nat} {m:List Nat} {L:Loc} {F:Nat->Nat} {s:σ} {a:Act} {w:World},Good cx r m L F ⟨e,h,s⟩ a w ->
   ∃ vals:List Value,(rs.mapM (qgd a.tmps)).run P w = .ok vals w/\RepVL cx.yv L F w l vals
 | [],K,hk=>⟨[],hk,fun _=>⟨[],by simp,rfl⟩⟩
 | .tmp t::rs,K,hk=>by
  have hk:(match get e t with
   | some v=>qpI T e h rs fun l=>K (v::l)
   | none=>False):=hk
  split at hk
  ·rename_i v hv
   obtain⟨l,hl,hrun⟩:=qit hT hk;refine⟨v::l,hl,fun {σ cx r m L F s a w} hg=>?_⟩;obtain⟨vals,hr,hrep⟩:=hrun hg;obtain⟨x,hx,hrx⟩:=hg.env t v hv;refine⟨x::vals,?_,x,vals,rfl,hrx,hrep⟩;simp only[List.mapM_cons,Sem.run_bind,qgd,Sem.run_pure,Result.andThen_ok,hr];simp[hx]
  ·exact hk.elim
 | .cell b t::rs,K,hk=>by
  have hk:qoa T e h t (.tmp b) fun v=>qpI T e h rs fun l=>K (v::l):=hk;obtain⟨v,hk,hload⟩:=qog (P:=P) hT hk;obtain⟨l,hl,hrun⟩:=qit hT hk;refine⟨v::l,hl,fun {σ cx r m L F s a w} hg=>?_⟩;obtain⟨vals,hr,hrep⟩:=hrun hg;obtain⟨bb,off,y,hu,hy,hry⟩:=hload cx L F s (a.eval (.tmp b)) w h (fun _ _ h=>h) hg.heap (fun v hv=>hg.opnd hv);have hu':a.tmps.getD b undef = .pointer (some ⟨bb,off,none⟩):=hu;have hone:(qgd a.tmps (.cell b t)).run P w = .ok y w:=by simp[qgd,hu',asAddr,hy]
  refine⟨y::vals,?_,y,vals,rfl,hry,hrep⟩;simp only[List.mapM_cons,Sem.run_bind,hone,Result.andThen_ok,hr,Sem.run_pure]
theorem qbM{fn:Func}{tmps:Array Value}{w:World}{vals:List Value}(h:(fn.results.toList.mapM (qgd tmps)).run P w = .ok vals w):(results fn tmps).run P w = .ok (qpn vals) w:=by
 have hmap:(fn.results.mapM (qgd tmps)).run P w = .ok vals.toArray w:=by
  rw[Array.mapM_eq_mapM_toList];simp only[Sem.run_map,h,Result.andThen_ok]
 rw[results_eq];simp only[Sem.run_bind,hmap,Result.andThen_ok,Sem.run_pure]
 congr 1
 match vals with
 | []=>rfl
 | [x]=>rfl
 | x::y::r=>simp[qpn]
theorem HeapOk.unmark{σ:Type}{cx:Cx σ}{L:Loc}{F:Nat->Nat}{h:Heap}{s:σ}{w:World}(hh:HeapOk cx L F h s w){b:Nat}(hb:w.heap[b]?=some (.deferred (some [])))(hC:¬ cx.C s b) :
  HeapOk cx L F h s (w.putObj b (.deferred none))/\Tr F w F (w.putObj b (.deferred none)):=by
 have hk:∀ x,x≠b->(w.putObj b (.deferred none)).heap[x]?=w.heap[x]?:=fun x hx=>by
  simp[World.putObj,Array.getElem?_setIfInBounds_ne (Ne.symm hx)]
 have hbb:(w.putObj b (.deferred none)).heap[b]?=some (.deferred none):=by
  simp[World.putObj,Array.getElem?_setIfInBounds,(Array.getElem?_eq_some_iff.1 hb).1]
 have hsz:(w.putObj b (.deferred none)).heap.size=w.heap.size:=by simp[World.putObj]
 have tr:Tr F w F (w.putObj b (.deferred none)):=by
  refine⟨rfl,rfl,rfl,by rw[hsz];exact Nat.le_refl _,fun _=>Nat.le_refl _,fun x o hx=>?_,fun x en c hx hm=>?_⟩
  ·by_cases he:x=b
   ·subst he;simp[World.cell?,hb,hbb]
   ·exact qbG (hk x he)
  ·by_cases he:x=b
   ·subst he;rw[hb]at hm;cases hm
   ·rw[hk x he];exact hm
 have hne:∀ id o,get h id=some o->Backed L id o->L.ρ id≠b:=by
  intro id o ho hbk e;have:=hh.obj id o ho
  cases o with
  | box c=>obtain⟨c',T,hc,_⟩:=this;rw[e,hb]at hc;cases hc
  | arr sz es=>
   obtain⟨_,_,h⟩:=this
   rcases h with⟨_,hk⟩ | ⟨c,T,hc,_⟩
   ·exact hbk hk
   ·rw[e,hb]at hc;cases hc
  | map kvs=>obtain⟨en,c,hc,_⟩:=this;rw[e,hb]at hc;cases hc
  | iter s n=>have hc:w.heap[L.ρ id]?=_:=this;rw[e,hb]at hc;cases hc
  | buf t s=>obtain⟨_,hc,_⟩:=this;rw[e,hb]at hc;cases hc
  | tb t l=>obtain⟨_,hc,_⟩:=this;rw[e,hb]at hc;cases hc
  | mit v n l u=>obtain⟨_,_,_,hc,_⟩:=this;rw[e,hb]at hc;cases hc
 refine⟨⟨cx.stable hh.hg tr (fun x hx=>hh.fresh x (by rw[<- hsz];exact hx)) fun x hx=>⟨hk x (by rintro rfl;exact hC hx),rfl⟩,fun x hx=>by rw[hsz];exact hh.csz x hx,fun x hx=>hh.fresh x (by rw[<- hsz];exact hx),fun id o ho=>?_,hh.own,hh.inj⟩,tr⟩;exact RepO.mono tr id o (fun _ _=>⟨rfl,rfl⟩) ⟨rfl,rfl⟩ (fun hbk=>hk _ (hne id o ho hbk)) (hh.obj id o ho)
theorem qcd{σ:Type}{cx:Cx σ}{L:Loc}{F0:Nat->Nat}{w0:World}{h:Heap}{s:σ}{fn:Func}{tmps:Array Value}{R:Ending->World->Prop}:∀ (m:List Nat) {F:Nat->Nat} {w:World},HeapOk cx L F h s w->Tr F0 w0 F w ->
  (∀ b∈m,w.heap[b]?=some (.deferred (some []))/\¬ cx.C s b)->m.Nodup->(∀ w',HeapOk cx L F h s w'->Tr F w F w' -> ∃ v,(results fn tmps).run P w' = .ok v w'/\R (.returned v) w') ->
  LeavesInM Fence.wide 0 P fn tmps R (m.map mark) .returning w
 | [],F,w,hh,tr,hm,hn,hR=>by
  simp only[List.map_nil,LeavesInM,LeavesIn];exact hR w hh (Tr.refl F w)
 | b::m,F,w,hh,tr,hm,hn,hR=>by
  obtain⟨hb,hC⟩:=hm b (List.mem_cons_self ..);obtain⟨hh',tr'⟩:=hh.unmark hb hC;simp only[List.map_cons,LeavesInM];refine⟨by simp,.inl ⟨b,w.putObj b (.deferred none),rfl,?_,?_⟩⟩
  ·simp[Instr.takeDeferred,Sem.run_bind,getObj,setObj,Sem.run,hb,Result.andThen,World.putObj]
  ·have hnd:=List.nodup_cons.1 hn
   refine qcd m hh' (Tr.trans tr tr') (fun x hx=>?_) hnd.2 fun w' h1 h2=>hR w' h1 (Tr.trans tr' h2);have hxb:x≠b:=by rintro rfl;exact hnd.1 hx
   refine⟨?_,(hm x (List.mem_cons_of_mem _ hx)).2⟩;rw[<- (hm x (List.mem_cons_of_mem _ hx)).1];simp[World.putObj,Array.getElem?_setIfInBounds_ne (Ne.symm hxb)]
def fnB(ft:FT)(fn:Func)(n:Nat):Bool:=
 match fn.body with
 | some c => ji fn.ntmps c && qbL ft c && Nat.ble fn.ntmps 1000000 && fn.name != "runtime.NumGoroutine" && Nat.ble n fn.ntmps
 | none=>false
theorem qcv:∀ {args:List V} {i s:Nat} {v:V},get (jj i args) s=some v -> ∃ k,s=i+k/\args[k]?=some v
 | [],i,s,v,h=>by cases h
 | a::r,i,s,v,h=>by
  simp only[jj,get]at h
  split at h
  ·rename_i he
   have:=Nat.eq_of_beq_eq_true he;subst this
   cases h
   exact⟨0,rfl,rfl⟩
  ·obtain⟨k,rfl,hk⟩:=qcv h
   exact⟨k+1,by omega,by simpa using hk⟩
theorem qaP(hm:P.follows .mixedOrders=true)(hT:qT P T){σ:Type}{Y:Hd σ}{f:FuncId}{fn:Func}{c:Code}(hf:P.funcs[f]?=some fn)(hb:fn.body=some c){ft:FT}{args:List V}(hok:fnB ft fn args.length=true)
  {h:Heap} {s:σ} {Q:V->Heap->σ->Prop} (hw:wpA P T ft Y.np c ⟨jj 0 args,h,s⟩ (fnK T fn.results.toList Q)):FnC P Y f args h s Q:=by
 unfold fnB at hok;rw[hb]at hok;simp only[Bool.and_eq_true,bne_iff_ne,ne_eq]at hok;obtain⟨⟨⟨⟨hcode,hdraws⟩,hnt⟩,hname⟩,hlen⟩:=hok;have hnt:=Nat.le_of_ble_eq_true hnt;have hlen:=Nat.le_of_ble_eq_true hlen;refine⟨fun vs w=>by simp[callFunc,hf,hname,hb,Go.mark],fun cx hY L F vals w hh hr=>?_⟩;have hvl:vals.size=args.length:=by simpa using hr.length
 have hsz:(vals++Array.replicate (fn.ntmps-vals.size) undef).size=fn.ntmps:=by simp;omega
 refine callsIn_of_wp_marks hf hb trivial ?_;have hg:Good { cx with pρ:=L.ρ,pκ:=L.κ,base:=[] } none [] L F ⟨jj 0 args,h,s⟩ { tmps:=vals++Array.replicate (fn.ntmps-vals.size) undef,defers:=[] } w:=by
  refine⟨⟨hh.hg,hh.csz,hh.fresh,hh.obj,hh.own,hh.inj⟩,fun t v ht=>?_,rfl,(fun b hb=>by cases hb),List.nodup_nil,(fun l hl=>by cases hl),fun _ _=>⟨rfl,rfl⟩,by rw[hsz];exact hnt⟩;obtain⟨k,hk,hv⟩:=qcv ht;rw[Nat.zero_add]at hk;subst hk;obtain⟨x,hx,hrx⟩:=hr.get t hv;refine⟨x,?_,hrx⟩;have hlt:t<vals.size:=by
   have:=(List.getElem?_eq_some_iff.1 hx).1;simpa using this
  rw[Array.getElem?_append_left hlt];simpa using hx
 have hY':Handles P Y.np { cx with pρ:=L.ρ,pκ:=L.κ,base:=[] }:=by
  refine⟨?_,hY.laid⟩;intro l hl args h s Q hy L' F' vals w hh' hr;obtain⟨fn,tmps,asg,body,h1,h2⟩:=hY.yld l hl args h s Q hy L' F' vals w ⟨hh'.hg,hh'.csz,hh'.fresh,hh'.obj,hh'.own,hh'.inj⟩ hr;refine⟨fn,tmps,asg,body,h1,h2.mono ?_⟩;rintro e w' ⟨x,he,v,h',s',L'',F'',hq,hh'',rest⟩;exact⟨x,he,v,h',s',L'',F'',hq,⟨hh''.hg,hh''.csz,hh''.fresh,hh''.obj,hh''.own,hh''.inj⟩,rest⟩
 have hwp:=zG hT c (qi hm hT hdraws) ⟨jj 0 args,h,s⟩ _ hw _ hY' none [] L F _ w hg (by rw[hsz];exact hcode);have hwp:c.wpIn Fence.wide 0 P _ { tmps:=vals++Array.replicate (fn.ntmps-vals.size) undef,defers:=[] } w:=hwp;refine wpIn_mono hwp fun ex a' w' hq=>?_
 rcases hq with⟨e',st',m',L',F',rfl,hk,hg',tr,hs⟩ | ⟨v,e',h',s',m',L',F',_,hy,_⟩
 case inr=>exact hy.elim
 have fin:fnK T fn.results.toList Q .normal st'->LeavesInM Fence.wide 0 P fn a'.tmps (fun e w'=>∃ x,e = .returned x /\ ∃ v h' s' L' F',Q v h' s'/\HeapOk cx L' F' h' s' w'/\RepV cx.yv L' F' w' v x/\Tr F w F' w'/\qeJ L L') a'.defers .returning w':=by
  intro hk;rw[hg'.dfr,List.append_nil];refine qcd m' hg'.heap tr hg'.mks hg'.mnd fun w'' hh'' tr''=>?_;obtain⟨e1,h1,s1⟩:=st';have hk:qpI T e1 h1 fn.results.toList fun l=>RetA l h1 s1 Q:=hk;obtain⟨l,⟨hret⟩,hrun⟩:=qit (P:=P) hT hk;have hg'':Good { cx with pρ:=L.ρ,pκ:=L.κ,base:=[] } none [] L' F' ⟨e1,h1,s1⟩ { a' with defers:=[] } w'':=by
   refine⟨hh'',fun t v ht=>?_,rfl,(fun b hb=>by cases hb),List.nodup_nil,(fun l hl=>by cases hl),hg'.pin,hg'.tsz⟩;obtain⟨x,hx,hrx⟩:=hg'.env t v ht;exact⟨x,hx,RepV.mono tr'' v x (fun _ _=>⟨rfl,rfl⟩) hrx⟩
  obtain⟨vals',hres,hrep⟩:=hrun hg'';obtain⟨v,h',L2,F2,hq,hh2,hr2,tr2,pin2⟩:=hret cx L' F' vals' w'' ⟨hh''.hg,hh''.csz,hh''.fresh,hh''.obj,hh''.own,hh''.inj⟩ hrep;refine⟨_,qbM hres,_,rfl,v,h',s1,L2,F2,hq,hh2,hr2,Tr.trans tr (Tr.trans tr'' tr2),fun i hi=>?_⟩;obtain⟨p1,p2⟩:=pin2 i hi;obtain⟨p3,p4⟩:=hg'.pin i hi;exact⟨p1.trans p3,p2.trans p4⟩
 cases e' with
 | normal=>exact fin hk
 | ret=>exact fin hk
 | exit i=>exact hk.elim
end
end Go.PX
namespace Go.PX
open Go.RowKit
def qkC(R:Nat->Nat)(v:V):V:=
 match v with
 | .ptr i off=>.ptr (R i) off
 | .ep i sz k off=>.ep (R i) sz k off
 | .sl i sz off n=>.sl (R i) sz off n
 | .mp i=>.mp (R i)
 | .it i=>.it (R i)
 | v=>v
abbrev ren(R:Nat->Nat)(v:V):V:=mapId (qkC R) v
abbrev qnA(R:Nat->Nat)(v:List V):List V:=zC (qkC R) v
abbrev qge(R:Nat->Nat)(o:Obj):Obj:=Obj.mapId (qkC R) o
section
variable {yv : Option Nat} {L L' : Loc} {F : Nat -> Nat} {w : World} {R : Nat -> Nat}
mutual
theorem RepV.ren:∀ (v:V) (x:Value),(∀ i,qbs v i->L'.ρ (R i)=L.ρ i/\L'.κ (R i)=L.κ i)->(RepV yv L' F w (mapId (qkC R) v) x↔RepV yv L F w v x)
 | .d v,_,_=>Iff.rfl
 | .agg cs,x,hn=>by
  constructor
  ·rintro ⟨l,rfl,hl⟩;exact⟨l,rfl,(RepVL.ren cs _ hn).1 hl⟩
  ·rintro ⟨l,rfl,hl⟩;exact⟨l,rfl,(RepVL.ren cs _ hn).2 hl⟩
 | .tup cs,x,hn=>by
  constructor
  ·rintro ⟨l,rfl,hl⟩;exact⟨l,rfl,(RepVL.ren cs _ hn).1 hl⟩
  ·rintro ⟨l,rfl,hl⟩;exact⟨l,rfl,(RepVL.ren cs _ hn).2 hl⟩
 | .ptr id off,x,hn=>by
  show x = .pointer (some ⟨L'.ρ (R id),off,none⟩)↔x = .pointer (some ⟨L.ρ id,off,none⟩);rw[(hn id rfl).1]
 | .ep id sz k off,x,hn=>by
  show x = .pointer (some ⟨L'.ρ (R id),k*sz+off,none⟩)↔x = .pointer (some ⟨L.ρ id,k*sz+off,none⟩);rw[(hn id rfl).1]
 | .sl id sz off len,x,hn=>by
  show(∃ a cap,x = .slice a len cap/\len<=cap/\0<sz/\((len=0/\cap=0)\/(a=some ⟨L'.ρ (R id),off*sz,none⟩/\(off+cap)*sz<=L'.κ (R id)))) ↔
   (∃ a cap,x = .slice a len cap/\len<=cap/\0<sz/\((len=0/\cap=0)\/(a=some ⟨L.ρ id,off*sz,none⟩/\(off+cap)*sz<=L.κ id)))
  rw[(hn id rfl).1,(hn id rfl).2]
 | .mp id,x,hn=>by
  show x = .map (some (L'.ρ (R id)))↔x = .map (some (L.ρ id));rw[(hn id rfl).1]
 | .it id,x,hn=>by
  show x = .pointer (some ⟨L'.ρ (R id),0,none⟩)↔x = .pointer (some ⟨L.ρ id,0,none⟩);rw[(hn id rfl).1]
 | .clo f cs,x,hn=>by
  constructor
  ·rintro ⟨l,rfl,hl⟩;exact⟨l,rfl,(RepVL.ren cs _ hn).1 hl⟩
  ·rintro ⟨l,rfl,hl⟩;exact⟨l,rfl,(RepVL.ren cs _ hn).2 hl⟩
 | .yld,_,_=>Iff.rfl
 | .unk,_,_=>Iff.rfl
theorem RepVL.ren:∀ (vs:List V) (l:List Value),(∀ i,zc vs i->L'.ρ (R i)=L.ρ i/\L'.κ (R i)=L.κ i)->(RepVL yv L' F w (zC (qkC R) vs) l↔RepVL yv L F w vs l)
 | [],_,_=>Iff.rfl
 | v::r,l,hn=>by
  simp only[zC,RepVL];constructor
  ·rintro ⟨x,l',rfl,hv,hl⟩;exact⟨x,l',rfl,(RepV.ren v x fun i hi=>hn i (.inl hi)).1 hv,(RepVL.ren r l' fun i hi=>hn i (.inr hi)).1 hl⟩
  ·rintro ⟨x,l',rfl,hv,hl⟩;exact⟨x,l',rfl,(RepV.ren v x fun i hi=>hn i (.inl hi)).2 hv,(RepVL.ren r l' fun i hi=>hn i (.inr hi)).2 hl⟩
end
theorem lensAre_mapIdLL{f:V->V}{sz:Nat}{l:List (List V)}:zF sz (qr f l)↔zF sz l:=by
 induction l with
 | nil=>exact Iff.rfl
 | cons e r ih=>
  simp only[qr,zF,List.forall_mem_cons,qbw];exact and_congr Iff.rfl ih
theorem mapIdLL_nil{f:V->V}{l:List (List V)}:qr f l = []↔l = []:=by cases l<;>simp[qr]
theorem RepO.ren(id:Nat)(o:Obj)(hn:∀ i,qdx o i->L'.ρ (R i)=L.ρ i/\L'.κ (R i)=L.κ i){id':Nat}(hid:L'.ρ id'=L.ρ id/\L'.κ id'=L.κ id) :
  RepO yv L' F w id' (qge R o)↔RepO yv L F w id o:=by
 cases o with
 | box c=>
  cases c with
  | dd l=>
   simp only[RepO,Obj.mapId,hid.1,Cells.toV,RepVL.inj]
  | vv l=>
   simp only[RepO,Obj.mapId,hid.1,Cells.toV];refine exists_congr fun c=>exists_congr fun T=>and_congr Iff.rfl (RepVL.ren l _ hn)
 | arr sz es=>
  cases es with
  | dd l=>
   simp only[RepO,Obj.mapId,hid.1,hid.2,Els.toV,zU,RepVL.inj]
  | vv l=>
   simp only[RepO,Obj.mapId,hid.1,hid.2,Els.toV];rw[lensAre_mapIdLL,mapIdLL_nil,qag,jS];refine and_congr Iff.rfl (and_congr Iff.rfl (or_congr Iff.rfl ?_));refine exists_congr fun c=>exists_congr fun T=>and_congr Iff.rfl (and_congr Iff.rfl (and_congr Iff.rfl (RepVL.ren l.flatten _ hn)))
 | map kvs=>simp only[RepO,Obj.mapId,hid.1]
 | iter s n=>simp only[RepO,Obj.mapId,hid.1]
 | buf t s=>simp only[RepO,Obj.mapId,hid.1,hid.2]
 | tb t l=>
  simp only[RepO,Obj.mapId,hid.1];refine exists_congr fun c=>and_congr Iff.rfl (RepVL.ren l _ hn)
 | mit v n l u=>
  simp only[RepO,Obj.mapId,hid.1];refine exists_congr fun r=>exists_congr fun seen=>and_congr (RepV.ren v _ hn) Iff.rfl
theorem zl(id:Nat)(o:Obj){id':Nat}(hk:L'.κ id'=L.κ id):Backed L' id' (qge R o)↔Backed L id o:=qdT hk o
end
def qaz(tb:List Nat)(d:Nat)(i:Nat):Nat:=
 match Nat.blt i 1000000 with
 | true=>i
 | false=>match Nat.blt i 2000000 with
  | true=>match tb[i-1000000]? with
   | some k=>k
   | none=>0
  | false=>100000+64*d+(i-2000000)
def zY:Heap->List Nat
 | []=>[]
 | (i,_)::r=>match Nat.blt i 2000000 with
  | true=>zY r
  | false=>i::zY r
def qdG(R:Nat->Nat)(h':Heap):Nat->List Nat->List Wr
 | _,[]=>[]
 | i,k::r=>(match get h' i with
  | some o=>.obj k (qge R o)
  | none=>.del k)::qdG R h' (i+1) r
def qhf(R:Nat->Nat)(h':Heap):List Nat->List Wr
 | []=>[]
 | i::r=>(match get h' i with
  | some o=>.new (R i) (qge R o)
  | none=>.new (R i) (.box (.dd [])))::qhf R h' r
def zH(tb:List Nat)(d:Option Nat)(v:V)(h':Heap):List Wr:=
 let R:=qaz tb (d.getD 0)
 qhf R h' (zY h')++(qdG R h' 1000000 tb++wset d (ren R v))
def qce:List Nat->Bool
 | []=>true
 | k::r=>!inL r k&&qce r
def qnB(n:Nat)(nk:List Nat):List Nat->Bool
 | []=>true
 | i::r=>(Nat.ble 1000000 i&&Nat.blt i (1000000+n)||inL nk i)&&qnB n nk r
def zy:Heap->List Nat
 | []=>[]
 | (i,o)::r=>i::(qaC o++zy r)
def qcw(R:Nat->Nat)(h:Heap):Nat->List Nat->Heap->Prop
 | _,[],h0=>h0 = []
 | i,k::r,h0=>∃ o h1,h0=(i,o)::h1/\get h k=some (qge R o)/\qcw R h (i+1) r h1
def qbN(tb:List Nat)(d:Option Nat)(v:V)(h':Heap):Bool:=
 qce tb&&Nat.ble (zY h').length 64&&qce (zY h')&&disj tb ((zY h').map (qaz tb (d.getD 0)))&&qnB tb.length (zY h') (zy h')&&qnB tb.length (zY h') (zp v) &&
  (zY h').all (fun i=>Nat.blt i 2000064)&&Nat.ble (d.getD 0) 10000&&Nat.ble tb.length 1000&&qaq (zH tb d v h')
def FnU(P:Program)(f:FuncId)(args:List V)(h:Heap)(Q:V->Heap->Prop):Prop:=
 ∀ {σ:Type} (Y:Hd σ) (s:σ),FnC P Y f args h s fun v h' s'=>Q v h'/\s'=s
theorem qak:∀ {l:List Nat},qce l=true->l.Nodup
 | [],_=>List.nodup_nil
 | k::r,h=>by
  simp only[qce,Bool.and_eq_true,Bool.not_eq_true']at h;refine List.nodup_cons.2 ⟨fun hm=>?_,qak h.2⟩;rw[qbl.2 hm]at h;cases h.1
theorem qfK{n:Nat}{nk:List Nat}:∀ {l:List Nat},qnB n nk l=true -> ∀ i∈l,(1000000<=i/\i<1000000+n)\/i∈nk
 | [],_,i,hi=>by cases hi
 | k::r,h,i,hi=>by
  simp only[qnB,Bool.and_eq_true,Bool.or_eq_true]at h
  rcases List.mem_cons.1 hi with rfl | hi
  ·exact h.1.imp (fun h=>⟨Nat.le_of_ble_eq_true h.1,Nat.le_of_ble_eq_true h.2⟩) qbl.1
  ·exact qfK h.2 i hi
theorem qE:∀ {h:Heap} {i:Nat} {o:Obj},get h i=some o->i∈zy h /\ ∀ x∈qaC o,x∈zy h
 | [],i,o,h=>by cases h
 | (k,p)::r,i,o,h=>by
  simp only[get]at h
  split at h
  ·rename_i he
   have:=Nat.eq_of_beq_eq_true he;subst this
   cases h
   exact⟨by simp[zy],fun x hx=>by simp[zy,hx]⟩
  ·obtain⟨h1,h2⟩:=qE h
   exact⟨by simp[zy,h1],fun x hx=>by simp[zy,h2 x hx]⟩
theorem qdU:∀ {h:Heap} {i:Nat},i∈zY h->2000000<=i
 | [],i,h=>by cases h
 | (k,p)::r,i,h=>by
  simp only[zY]at h
  split at h
  ·exact qdU h
  ·rename_i hk
   rcases List.mem_cons.1 h with rfl | h
   ·rcases Nat.lt_or_ge i 2000000 with hlt | hge
    ·rw[show Nat.blt i 2000000=true from Nat.ble_eq_true_of_le hlt]at hk;cases hk
    ·exact hge
   ·exact qdU h
theorem qdV{tb:List Nat}{d k id:Nat}(hk:tb[k]?=some id)(hl:tb.length<=1000):qaz tb d (1000000+k)=id:=by
 have hlt:k<tb.length:=(List.getElem?_eq_some_iff.1 hk).1;unfold qaz;have h1:Nat.blt (1000000+k) 1000000=false:=by
  rw[Bool.eq_false_iff];intro h;have:=Nat.le_of_ble_eq_true h;omega
 have h2:Nat.blt (1000000+k) 2000000=true:=Nat.ble_eq_true_of_le (by omega);rw[h1,h2];simp only[show 1000000+k-1000000=k by omega,hk]
theorem callR_new{tb:List Nat}{d i:Nat}(hi:2000000<=i):qaz tb d i=100000+64*d+(i-2000000):=by
 unfold qaz;have h1:Nat.blt i 1000000=false:=by
  rw[Bool.eq_false_iff];intro h;have:=Nat.le_of_ble_eq_true h;omega
 have h2:Nat.blt i 2000000=false:=by
  rw[Bool.eq_false_iff];intro h;have:=Nat.le_of_ble_eq_true h;omega
 rw[h1,h2]
theorem qhg{R:Nat->Nat}{h:Heap}:∀ {tb:List Nat} {b:Nat} {h0:Heap},qcw R h b tb h0 -> ∀ i o,get h0 i=some o -> ∃ k id,i=b+k/\tb[k]?=some id/\get h id=some (qge R o)
 | [],b,h0,hl,i,o,hi=>by
  have:h0 = []:=hl;subst this;cases hi
 | id::r,b,h0,hl,i,o,hi=>by
  obtain⟨o',h1,rfl,hg,hl⟩:=hl;simp only[get]at hi
  split at hi
  ·rename_i he
   have:=Nat.eq_of_beq_eq_true he;subst this
   cases hi
   exact⟨0,id,rfl,by simp,hg⟩
  ·obtain⟨k,id',rfl,hk,hg'⟩:=qhg hl i o hi
   exact⟨k+1,id',by omega,by simpa using hk,hg'⟩
def clr{σ:Type}(st:St σ):List Nat->St σ
 | []=>st
 | i::r=>clr ⟨jO (mapId (qy i)) st.env,jO (Obj.mapId (qy i)) (cut st.heap i),st.s⟩ r
def kills:List Nat->V->V
 | [],v=>v
 | i::r,v=>kills r (mapId (qy i) v)
def qgf:List Nat->Obj->Obj
 | [],v=>v
 | i::r,v=>qgf r (Obj.mapId (qy i) v)
theorem qqH{σ:Type}:∀ (l:List Nat) (st:St σ),(clr st l).s=st.s
 | [],_=>rfl
 | _::r,st=>by rw[clr,qqH r]
theorem qhh{σ:Type}:∀ (l:List Nat) (st:St σ) (x:Nat),get (clr st l).env x=(get st.env x).map (kills l)
 | [],st,x=>by cases h:get st.env x<;>simp[clr,kills,h]
 | i::r,st,x=>by
  rw[clr,qhh r,qP]
  cases h:get st.env x<;>simp[kills]
theorem qdW{σ:Type}:∀ (l:List Nat) (st:St σ) (x:Nat),get (clr st l).heap x=if x∈l then none else (get st.heap x).map (qgf l)
 | [],st,x=>by cases h:get st.heap x<;>simp[clr,qgf,h]
 | i::r,st,x=>by
  rw[clr,qdW r,qP,zV]
  by_cases h1:x∈r
  ·simp[h1]
  ·by_cases h2:x=i
   ·simp[h2]
   ·cases h:get st.heap x<;>simp[h1,h2,qgf]
theorem qmF:∀ (l:List Nat) (v:V),(∀ i∈l,¬ qbs v i)->kills l v=v
 | [],_,_=>rfl
 | i::r,v,h=>by
  rw[kills,qjo i v (h i (List.mem_cons_self ..))];exact qmF r v fun j hj=>h j (List.mem_cons_of_mem _ hj)
theorem qhi:∀ (l:List Nat) (v:Obj),(∀ i∈l,¬ qdx v i)->qgf l v=v
 | [],_,_=>rfl
 | i::r,v,h=>by
  rw[qgf,qmE i v (h i (List.mem_cons_self ..))];exact qhi r v fun j hj=>h j (List.mem_cons_of_mem _ hj)
section
variable {σ : Type} {cx : Cx σ} {r : Option Nat} {m : List Nat} {L : Loc} {F : Nat -> Nat} {a : Act} {w : World}
theorem Good.clr:∀ (l:List Nat) {st:St σ},Good cx r m L F st a w->Good cx r m L F (clr st l) a w
 | [],st,h=>h
 | i::l,st,h=>by
  have h1:Good cx r m L F ⟨st.env,cut st.heap i,st.s⟩ a w:=h.del i;exact Good.clr l (h1.kill i)
end
theorem qfL{e:Env}{h:Heap}(k:Nat){x:Nat}(hx:x=k\/Unn ⟨get e,get h⟩ x):Unn ⟨get (jO (mapId (qy k)) e),get (jO (Obj.mapId (qy k)) (cut h k))⟩ x:=by
 refine⟨?_,fun t v ht hnm=>?_,fun t o ht hnm=>?_⟩
 ·show get _ x=none
  rw[qP,zV]
  split
  ·rfl
  ·rename_i hxk
   have:get h x=none:=(hx.resolve_left hxk).none;rw[this];rfl
 ·simp only[qP]at ht
  cases h1:get e t with
  | none=>simp[h1]at ht
  | some v0=>
   simp[h1]at ht;subst ht;obtain⟨y,h2,rfl,h3⟩:=qdF (qjq k) v0 x hnm;exact(hx.resolve_left h3).env t v0 h1 h2
 ·simp only[qP,zV]at ht
  split at ht
  ·cases ht
  ·cases h1:get h t with
   | none=>simp[h1]at ht
   | some v0=>
    simp[h1]at ht;subst ht;obtain⟨y,h2,rfl,h3⟩:=qfJ (qjq k) v0 x hnm;exact(hx.resolve_left h3).heap t v0 h1 h2
theorem qoo{σ:Type}:∀ (l:List Nat) (st:St σ) (B:Nat->Prop),(∀ x,B x->Unn (qaO st) x) -> ∀ x,x∈l\/B x->Unn (qaO (clr st l)) x
 | [],st,B,hB,x,hx=>hB x (hx.resolve_left (by simp))
 | i::l,st,B,hB,x,hx=>by
  rw[clr];refine qoo l ⟨jO (mapId (qy i)) st.env,jO (Obj.mapId (qy i)) (cut st.heap i),st.s⟩ (fun y=>y=i\/B y) (fun y hy=>qfL i (hy.imp id (hB y))) x ?_
  rcases hx with hx | hx
  ·rcases List.mem_cons.1 hx with rfl | hx
   ·exact .inr (.inl rfl)
   ·exact .inl hx
  ·exact .inr (.inr hx)
theorem qmG{σ:Type}:∀ (ws:List Wr) (st:St σ),qaq ws=true->qaO (qx st ws)=appFs (qaO (clr st (zo ws))) ws
 | [],st,_=>rfl
 | w::r,st,hok=>by
  obtain⟨h1,h2,h3,h4⟩:=qgY hok;rw[qx,qmG r _ h1,appFs]
  congr 1
  have put:∀ (i:Nat) (o:Obj),(∀ x∈zo r,x∉qaC o)->(∀ x∈zo r,x≠i) -> ∀ (e:Env) (h:Heap) (s:σ),
    qaO (clr (⟨e,put h i o,s⟩:St σ) (zo r))=⟨(qaO (clr (⟨e,h,s⟩:St σ) (zo r))).env,fun x=>if x=i then some o else (qaO (clr (⟨e,h,s⟩:St σ) (zo r))).heap x⟩:=by
   intro i o ho hi e h s
   ext1
   ·funext x;simp only[qaO,qhh]
   ·funext x
    simp only[qaO,qdW,jn]
    by_cases hx:x=i
    ·subst hx
     rw[if_neg (fun hm=>hi x hm rfl),if_pos rfl,if_pos rfl];simp only[Option.map_some];rw[qhi _ _ fun j hj hn=>ho j hj (jx j o hn)]
    ·simp only[hx,if_false]
  have one:∀ (i:Nat) (o:Obj),(∀ x∈zo r,x∉qaC o)->(∀ x∈zo r,x≠i) -> ∀ (e:Env) (h:Heap) (s:σ),
    qaO (clr (⟨e,(i,o)::h,s⟩:St σ) (zo r))=⟨(qaO (clr (⟨e,h,s⟩:St σ) (zo r))).env,fun x=>if x=i then some o else (qaO (clr (⟨e,h,s⟩:St σ) (zo r))).heap x⟩:=by
   intro i o ho hi e h s
   ext1
   ·funext x;simp only[qaO,qhh]
   ·funext x
    simp only[qaO,qdW,qF]
    by_cases hx:x=i
    ·subst hx
     rw[if_neg (fun hm=>hi x hm rfl),if_pos rfl,if_pos rfl];simp only[Option.map_some];rw[qhi _ _ fun j hj hn=>ho j hj (jx j o hn)]
    ·simp only[hx,if_false]
  cases w with
  | set s v=>
   simp only[ze,zo,appF]
   ext1
   ·funext x
    simp only[qaO,qhh,jn]
    split
    ·simp only[Option.map_some]
     rw[qmF _ _ fun j hj hn=>h2 j hj (by simp[zA,qaV j v hn])]
    ·rfl
   ·funext x;simp only[qaO,qdW]
  | obj i o=>
   simp only[ze,zo,appF];exact put i o (fun x hx=>by simpa[zA]using h2 x hx) (fun x hx he=>by obtain⟨_,hd⟩:=h3 x hx (by simp[jf,he]);cases hd) _ _ _
  | new i o=>
   simp only[ze,zo,appF];rw[clr];exact one i o (fun x hx=>by simpa[zA]using h2 x hx) (fun x hx he=>by obtain⟨_,hd⟩:=h3 x hx (by simp[jf,he]);cases hd) _ _ _
  | newq i o=>exact absurd rfl (h4 i o)
  | del i=>
   simp only[ze,zo,appF]
   ext1
   ·funext x;simp only[qaO,qhh]
   ·funext x
    simp only[qaO,qdW,zV]
    by_cases h1:x=i
    ·simp[h1]
    ·simp[h1]
theorem wNews_append(a b:List Wr):zo (a++b)=zo a++zo b:=by
 induction a with
 | nil=>rfl
 | cons w r ih=>cases w<;>simp[zo,ih]
theorem qcf(f:Fs)(a b:List Wr):appFs f (a++b)=appFs (appFs f a) b:=by
 induction a generalizing f with
 | nil=>rfl
 | cons w r ih=>simp[appFs,ih]
theorem wNews_wset(d:Option Nat)(v:V):zo (wset d v) = []:=by cases d<;>rfl
theorem qiu(R:Nat->Nat)(h':Heap):∀ (l:List Nat) (i:Nat),zo (qdG R h' i l) = []
 | [],_=>rfl
 | k::r,i=>by
  simp only[qdG]
  split<;>simp[zo,qiu R h' r]
theorem qkD(R:Nat->Nat)(h':Heap):∀ (l:List Nat),zo (qhf R h' l)=l.map R
 | []=>rfl
 | k::r=>by
  simp only[qhf]
  split<;>simp[zo,qkD R h' r]
theorem wNews_call(tb:List Nat)(d:Option Nat)(v:V)(h':Heap):zo (zH tb d v h')=(zY h').map (qaz tb (d.getD 0)):=by
 simp only[zH,wNews_append,qkD,qiu,wNews_wset,List.append_nil]
theorem qkE(R:Nat->Nat)(h':Heap):∀ (l:List Nat) (b:Nat) (f:Fs) (x:Nat) (o:Obj),(appFs f (qdG R h' b l)).heap x=some o ->
  (∃ k o0,l[k]?=some x/\get h' (b+k)=some o0/\o=qge R o0)\/(x∉l/\f.heap x=some o)
 | [],b,f,x,o,h=>.inr ⟨by simp,h⟩
 | k::r,b,f,x,o,h=>by
  simp only[qdG,appFs]at h
  rcases qkE R h' r (b+1) _ x o h with⟨j,o0,h1,h2,h3⟩ | ⟨h1,h2⟩
  ·exact .inl ⟨j+1,o0,by simpa using h1,by rw[show b+(j+1)=b+1+j by omega];exact h2,h3⟩
  ·by_cases hx:x=k
   ·subst hx
    left
    split at h2
    ·rename_i o0 ho
     simp only[appF,if_true,Option.some.injEq]at h2;exact⟨0,o0,by simp,ho,h2.symm⟩
    ·simp[appF]at h2
   ·right
    refine⟨by simp[hx,h1],?_⟩
    split at h2
    ·simpa[appF,hx]using h2
    ·simpa[appF,hx]using h2
theorem qjr(R:Nat->Nat)(h':Heap):∀ (l:List Nat) (b:Nat) (f:Fs),(appFs f (qdG R h' b l)).env=f.env
 | [],b,f=>rfl
 | k::r,b,f=>by
  simp only[qdG,appFs];rw[qjr R h' r]
  split<;>rfl
theorem qmH(R:Nat->Nat)(h':Heap):∀ (l:List Nat) (f:Fs) (x:Nat) (o:Obj),(∀ i∈l,(get h' i).isSome)->(appFs f (qhf R h' l)).heap x=some o ->
  (∃ i o0,i∈l/\x=R i/\get h' i=some o0/\o=qge R o0)\/(x∉l.map R/\f.heap x=some o)
 | [],f,x,o,_,h=>.inr ⟨by simp,h⟩
 | k::r,f,x,o,hl,h=>by
  simp only[qhf,appFs]at h
  rcases qmH R h' r _ x o (fun i hi=>hl i (List.mem_cons_of_mem _ hi)) h with⟨i,o0,h1,h2,h3⟩ | ⟨h1,h2⟩
  ·exact .inl ⟨i,o0,List.mem_cons_of_mem _ h1,h2,h3⟩
  ·obtain⟨o0,ho⟩:=Option.isSome_iff_exists.1 (hl k (List.mem_cons_self ..))
   simp only[ho,appF]at h2
   by_cases hx:x=R k
   ·subst hx
    simp only[if_true,Option.some.injEq]at h2;exact .inl ⟨k,o0,List.mem_cons_self ..,rfl,ho,h2.symm⟩
   ·exact .inr ⟨by simpa[hx]using h1,by simpa[hx]using h2⟩
theorem qlO(R:Nat->Nat)(h':Heap):∀ (l:List Nat) (f:Fs),(appFs f (qhf R h' l)).env=f.env
 | [],f=>rfl
 | k::r,f=>by
  simp only[qhf,appFs];rw[qlO R h' r]
  split<;>rfl
theorem qhj:∀ {h:Heap} {i:Nat},i∈zY h->(get h i).isSome
 | [],i,h=>by cases h
 | (k,p)::r,i,h=>by
  simp only[get]
  split
  ·rfl
  ·rename_i hk
   refine qhj ?_;simp only[zY]at h
   split at h
   ·exact h
   ·rcases List.mem_cons.1 h with rfl | h
    ·simp at hk
    ·exact h
end Go.PX
