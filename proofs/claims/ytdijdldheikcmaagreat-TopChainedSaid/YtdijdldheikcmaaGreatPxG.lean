import Derived.Test.YtdijdldheikcmaaGreatPxF
import Derived.RangeFuncLeaves
import Derived.RangeFuncRecord
set_option linter.all false
namespace Go.PX
open Go.RowKit
def pr(f:V->V)(R:Nat->Nat->Prop):Prop:=∀ v x y,kB v=some y->fx (f v) x->R y x
mutual
theorem lg{f:V->V}{R:Nat->Nat->Prop}(hf:pr f R):∀ (v:V) (x:Nat),fx (aB f v) x -> ∃ y,fx v y/\R y x
 | .d _,_,h=>h.elim
 | .agg cs,x,h=>fO hf cs x h
 | .tup cs,x,h=>fO hf cs x h
 | .clo _ cs,x,h=>fO hf cs x h
 | .ptr i off,x,h=>⟨i,rfl,hf _ x i rfl h⟩
 | .ep i sz j off,x,h=>⟨i,rfl,hf _ x i rfl h⟩
 | .sl i sz off len,x,h=>⟨i,rfl,hf _ x i rfl h⟩
 | .mp i,x,h=>⟨i,rfl,hf _ x i rfl h⟩
 | .it i,x,h=>⟨i,rfl,hf _ x i rfl h⟩
 | .yld,_,h=>h.elim
 | .unk,_,h=>h.elim
theorem fO{f:V->V}{R:Nat->Nat->Prop}(hf:pr f R):∀ (vs:List V) (x:Nat),bt (cr f vs) x -> ∃ y,bt vs y/\R y x
 | [],_,h=>h.elim
 | v::r,x,h=>by
  rcases h with h|h
  ·obtain⟨y,h1,h2⟩:=lg hf v x h;exact⟨y,.inl h1,h2⟩
  ·obtain⟨y,h1,h2⟩:=fO hf r x h;exact⟨y,.inr h1,h2⟩
end
theorem oP{f:V->V}{R:Nat->Nat->Prop}(hf:pr f R)(o:Obj)(x:Nat)(h:jG (Obj.aB f o) x):∃ y,jG o y/\R y x:=by
 cases o with
 | box c=>cases c with
  | dd l=>exact(dF l x h).elim
  | vv l=>exact fO hf l x h
 | arr sz es=>cases es with
  | dd l=>
   exfalso;have h:bt (cw l).flatten x:=h;rw[dB]at h;exact dF _ x h
  | vv l=>
   have h:bt (cG f l).flatten x:=h;rw[ez]at h;exact fO hf l.flatten x h
 | map bT=>exact h.elim
 | iter s n=>exact h.elim
 | buf t s=>exact h.elim
 | tb t l=>exact fO hf l x h
 | mit v n l u=>exact lg hf v x h
theorem sF(k:Nat):pr (aU k) fun y x=>x=y/\x≠k:=by
 intro v x y hy h;simp only[aU,hy]at h;split at h
 ·exact h.elim
 ·rename_i hk
  have WM:x=y:=by
   cases v<;>simp only[kB,Option.some.injEq]at hy<;>first|(cases hy;done)|skip
   all_goals (subst hy;exact(show _=_ from h).symm)
  subst WM;exact⟨rfl,by rintro rfl;simp at hk⟩
theorem B5(i j:Nat):pr (fD i j) fun y x=>(y=i/\x=j)\/(y≠i/\x=y):=by
 intro v x y hy h;cases v<;>simp only[kB,Option.some.injEq]at hy<;>first|(cases hy;done)|skip
 all_goals
  subst hy;simp only[fD]at h;split at h
  ·rename_i hk
   exact .inl ⟨Nat.eq_of_beq_eq_true hk,(show _=_ from h).symm⟩
  ·rename_i hk
   exact .inr ⟨by rintro rfl;simp at hk,(show _=_ from h).symm⟩
mutual
theorem aR.move{yv:Option Nat}{L L':Loc}{F:Nat->Nat}{w:World}{i j:Nat}(hj:L'.ρ j=L.ρ i/\L'.κ j=L.κ i)(hx:∀ x,x≠j->L'.ρ x=L.ρ x/\L'.κ x=L.κ x):∀ (v:V) (x:Value),¬ fx v j->aR yv L F w v x->aR yv L' F w (aB (fD i j) v) x
 | .d v,_,_,hr=>hr
 | .agg cs,_,hn,hr=>by
  obtain⟨l,rfl,hl⟩:=hr;exact⟨l,rfl,ak.move hj hx cs _ hn hl⟩
 | .tup cs,_,hn,hr=>by
  obtain⟨l,rfl,hl⟩:=hr;exact⟨l,rfl,ak.move hj hx cs _ hn hl⟩
 | .ptr id off,x,hn,hr=>by
  have hr:x = .pointer (some ⟨L.ρ id,off,none⟩):=hr;have eb:id≠j:=hn;simp only[aB,fD];cases h:Nat.beq id i
  ·show x = .pointer (some ⟨L'.ρ id,off,none⟩)
   rw[(hx id eb).1];exact hr
  ·have:=Nat.eq_of_beq_eq_true h;subst this
   show x = .pointer (some ⟨L'.ρ j,off,none⟩);rw[hj.1];exact hr
 | .ep id sz k off,x,hn,hr=>by
  have hr:x = .pointer (some ⟨L.ρ id,k*sz+off,none⟩):=hr;have eb:id≠j:=hn;simp only[aB,fD];cases h:Nat.beq id i
  ·show x = .pointer (some ⟨L'.ρ id,k*sz+off,none⟩)
   rw[(hx id eb).1];exact hr
  ·have:=Nat.eq_of_beq_eq_true h;subst this
   show x = .pointer (some ⟨L'.ρ j,k*sz+off,none⟩);rw[hj.1];exact hr
 | .sl id sz off len,x,hn,hr=>by
  obtain⟨a,cap,rfl,hl,hs,hc⟩:=hr;have eb:id≠j:=hn;simp only[aB,fD];cases h:Nat.beq id i
  ·refine⟨a,cap,rfl,hl,hs,?_⟩
   rw[(hx id eb).1,(hx id eb).2];exact hc
  ·have:=Nat.eq_of_beq_eq_true h;subst this
   refine⟨a,cap,rfl,hl,hs,?_⟩;rw[hj.1,hj.2];exact hc
 | .mp id,x,hn,hr=>by
  have hr:x = .map (some (L.ρ id)):=hr;have eb:id≠j:=hn;simp only[aB,fD];cases h:Nat.beq id i
  ·show x = .map (some (L'.ρ id))
   rw[(hx id eb).1];exact hr
  ·have:=Nat.eq_of_beq_eq_true h;subst this
   show x = .map (some (L'.ρ j));rw[hj.1];exact hr
 | .it id,x,hn,hr=>by
  have hr:x = .pointer (some ⟨L.ρ id,0,none⟩):=hr;have eb:id≠j:=hn;simp only[aB,fD];cases h:Nat.beq id i
  ·show x = .pointer (some ⟨L'.ρ id,0,none⟩)
   rw[(hx id eb).1];exact hr
  ·have:=Nat.eq_of_beq_eq_true h;subst this
   show x = .pointer (some ⟨L'.ρ j,0,none⟩);rw[hj.1];exact hr
 | .clo f cs,_,hn,hr=>by
  obtain⟨l,rfl,hl⟩:=hr;exact⟨l,rfl,ak.move hj hx cs _ hn hl⟩
 | .yld,_,_,hr=>hr
 | .unk,_,_,hr=>hr
theorem ak.move{yv:Option Nat}{L L':Loc}{F:Nat->Nat}{w:World}{i j:Nat}(hj:L'.ρ j=L.ρ i/\L'.κ j=L.κ i)(hx:∀ x,x≠j->L'.ρ x=L.ρ x/\L'.κ x=L.κ x):∀ (vs:List V) (l:List Value),¬ bt vs j->ak yv L F w vs l->ak yv L' F w (cr (fD i j) vs) l
 | [],_,_,hr=>hr
 | v::r,_,hn,hr=>by
  simp only[bt,not_or]at hn;obtain⟨x,l',rfl,hv,hl⟩:=hr;exact⟨x,l',rfl,aR.move hj hx v x hn.1 hv,ak.move hj hx r l' hn.2 hl⟩
end
section
variable {yv : Option Nat} {L L' : Loc} {F : Nat -> Nat} {w : World} {i j : Nat}
theorem bE.move(hj:L'.ρ j=L.ρ i/\L'.κ j=L.κ i)(hx:∀ x,x≠j->L'.ρ x=L.ρ x/\L'.κ x=L.κ x){id lT:Nat}(eb:L'.ρ lT=L.ρ id/\L'.κ lT=L.κ id)(o:Obj)(hn:¬ jG o j)
  (h:bE yv L F w id o):bE yv L' F w lT (Obj.aB (fD i j) o):=by
 cases o with
 | box c=>
  cases c with
  | dd l=>
   obtain⟨c,T,hc,hr⟩:=h;exact⟨c,T,by rw[eb.1];exact hc,ak.inj.2 (ak.inj.1 hr)⟩
  | vv l=>
   obtain⟨c,T,hc,hr⟩:=h;exact⟨c,T,by rw[eb.1];exact hc,ak.move hj hx _ _ hn hr⟩
 | arr sz es=>
  cases es with
  | dd l=>
   obtain⟨hs,hl,h⟩:=h;refine⟨hs,hl,?_⟩;rcases h with⟨h,hk⟩|⟨c,T,hc,hk,iF,hr⟩
   ·exact .inl ⟨h,by rw[eb.2];exact hk⟩
   ·refine .inr ⟨c,T,by rw[eb.1];exact hc,by rw[eb.2];exact hk,iF,?_⟩
    have hr:ak yv L F w (cw l).flatten _:=hr;show ak yv L' F w (cw l).flatten _;rw[dB]at hr ⊢;exact ak.inj.2 (ak.inj.1 hr)
  | vv l=>
   obtain⟨hs,hl,h⟩:=h;refine⟨hs,?_,?_⟩
   ·intro e he
    obtain⟨e0,h0,rfl⟩:=rK _ _ _ he;rw[ik];exact hl e0 h0
   ·rcases h with⟨h,hk⟩|⟨c,T,hc,hk,iF,hr⟩
    ·left
     have h:l = []:=h;subst h;exact⟨rfl,by rw[eb.2];exact hk⟩
    ·right
     refine⟨c,T,by rw[eb.1];exact hc,by rw[eb.2];exact hk,?_,?_⟩
     ·show(cG _ l).length*sz<=_
      rw[eZ];exact iF
     ·show ak yv L' F w (cG _ l).flatten (c.toList.take ((cG _ l).length*sz))
      rw[eZ,ez];exact ak.move hj hx _ _ hn hr
 | map bT=>obtain⟨en,c,hc,hr⟩:=h;exact⟨en,c,by rw[eb.1];exact hc,hr⟩
 | iter s n=>
  show w.heap[L'.ρ lT]?=_;rw[eb.1];exact h
 | buf t s=>
  obtain⟨c,h1,h2,h3⟩:=h;exact⟨c,by rw[eb.1];exact h1,by rw[eb.2];exact h2,h3⟩
 | tb t l=>
  obtain⟨c,hc,hr⟩:=h;exact⟨c,by rw[eb.1];exact hc,ak.move hj hx _ _ hn hr⟩
 | mit v n l u=>
  obtain⟨r,seen,h1,h2,h3⟩:=h;exact⟨r,seen,aR.move hj hx _ _ hn h1,by rw[eb.1];exact h2,h3⟩
theorem lB{f:V->V}{id lT:Nat}(hk:L'.κ lT=L.κ id)(o:Obj):aG L' lT (Obj.aB f o)↔aG L id o:=by
 cases o with
 | box c=>cases c<;>exact Iff.rfl
 | arr sz es=>cases es<;>simp[Obj.aB,aG,hk]
 | map bT=>exact Iff.rfl
 | iter s n=>exact Iff.rfl
 | buf t s=>exact Iff.rfl
 | tb t l=>exact Iff.rfl
 | mit v n l u=>exact Iff.rfl
theorem qO(h:ar)(hj:get h j=none)(x:Nat):get (la i j h) x=if x=j then (get h i).map (Obj.aB (fD i j)) else if x=i then none else (get h x).map (Obj.aB (fD i j)):=by
 induction h with
 | nil=>simp[la,get]
 | cons kv r ih=>
  obtain⟨k,o⟩:=kv;have yR:k≠j:=by rintro rfl;simp[get]at hj
  have Te:Nat.beq k j=false:=by rw[Bool.eq_false_iff];exact fun e=>yR (Nat.eq_of_beq_eq_true e)
  have yQ:get r j=none:=by simpa[get,Te]using hj
  simp only[la]
  cases hk:Nat.beq k i with
  | true=>
   have:=Nat.eq_of_beq_eq_true hk;subst this;simp only[get];by_cases hx:x=j
   ·subst hx;simp
   ·have Wb:Nat.beq j x=false:=by rw[Bool.eq_false_iff];exact fun e=>hx (Nat.eq_of_beq_eq_true e).symm
    simp only[Wb,ih yQ,hx,if_false];by_cases OG:x=k
    ·subst OG;simp
    ·have:Nat.beq k x=false:=by rw[Bool.eq_false_iff];exact fun e=>OG (Nat.eq_of_beq_eq_true e).symm
     simp[OG,this]
  | false=>
   have CV:k≠i:=by rintro rfl;simp at hk
   simp only[get]
   cases DH:Nat.beq k x with
   | true=>
    have:=Nat.eq_of_beq_eq_true DH;subst this;simp[yR,CV]
   | false=>simp only[ih yQ,hk]
end
section
variable {σ : Type} {cx : Cx σ} {r : Option Nat} {m : List Nat} {L : Loc} {F : Nat -> Nat} {a : Act} {w : World} {e : Env} {h : ar} {s : σ}
theorem Good.kill(hh:Good cx r m L F ⟨e,h,s⟩ a w)(d:Nat):Good cx r m L F ⟨cj (aB (aU d)) e,cj (Obj.aB (aU d)) h,s⟩ a w:=by
 have hg:∀ i o',get (cj (Obj.aB (aU d)) h) i=some o' -> ∃ o0,get h i=some o0/\o'=Obj.aB (aU d) o0:=by
  intro i o' hi;rw[bC]at hi
  cases h0:get h i with
  | none=>simp[h0]at hi
  | some o0=>simp[h0]at hi;exact⟨o0,rfl,hi.symm⟩
 refine⟨⟨hh.heap.hg,hh.heap.kq,hh.heap.fresh,?_,?_,?_⟩,?_,hh.w8,hh.qB,hh.ye,hh.lk,hh.mB,hh.wE⟩
 ·intro i o' hi
  obtain⟨o0,h0,rfl⟩:=hg i o' hi;exact bE.kill d i o0 (hh.heap.obj i o0 h0)
 ·intro i o' hi hb
  obtain⟨o0,h0,rfl⟩:=hg i o' hi;exact hh.heap.own i o0 h0 ((df L d i o0).1 hb)
 ·intro i j o' p hi hj nZ kL he
  obtain⟨o0,h0,rfl⟩:=hg i o' hi;obtain⟨p0,xz,rfl⟩:=hg j p hj;exact hh.heap.inj i j o0 p0 h0 xz ((df L d i o0).1 nZ) ((df L d j p0).1 kL) he
 ·intro t v ht
  simp only[bC]at ht
  cases h0:get e t with
  | none=>simp[h0]at ht
  | some v0=>
   simp[h0]at ht;subst ht;obtain⟨x,hx,hr⟩:=hh.env t v0 h0;exact⟨x,hx,aR.kill d v0 x hr⟩
theorem Good.move(hh:Good cx r m L F ⟨e,h,s⟩ a w){i j:Nat}(Wv:¬ pinned j)(oM:i≠j)(hu:oy ⟨get e,get h⟩ j) :
  Good cx r m ⟨fun x=>if x=j then L.ρ i else L.ρ x,fun x=>if x=j then L.κ i else L.κ x⟩ F ⟨cj (aB (fD i j)) e,la i j h,s⟩ a w:=by
 have hj:((⟨fun x=>if x=j then L.ρ i else L.ρ x,fun x=>if x=j then L.κ i else L.κ x⟩:Loc).ρ j=L.ρ i/\(⟨fun x=>if x=j then L.ρ i else L.ρ x,fun x=>if x=j then L.κ i else L.κ x⟩:Loc).κ j=L.κ i):=by simp
 have hx:∀ x,x≠j->((⟨fun x=>if x=j then L.ρ i else L.ρ x,fun x=>if x=j then L.κ i else L.κ x⟩:Loc).ρ x=L.ρ x/\(⟨fun x=>if x=j then L.ρ i else L.ρ x,fun x=>if x=j then L.κ i else L.κ x⟩:Loc).κ x=L.κ x):=by
  intro x hx;simp[hx]
 generalize (⟨fun x=>if x=j then L.ρ i else L.ρ x,fun x=>if x=j then L.κ i else L.κ x⟩:Loc)=L' at hj hx ⊢;have hg:∀ x o',get (la i j h) x=some o' -> ∃ y o0,get h y=some o0/\o'=Obj.aB (fD i j) o0/\(L'.ρ x=L.ρ y/\L'.κ x=L.κ y)/\((x=j/\y=i)\/(x≠j/\x≠i/\y=x)):=by
  intro x o' hi;rw[qO h hu.none]at hi;split at hi
  ·rename_i e1;subst e1
   cases h0:get h i with
   | none=>simp[h0]at hi
   | some o0=>simp[h0]at hi;exact⟨i,o0,h0,hi.symm,hj,.inl ⟨rfl,rfl⟩⟩
  ·rename_i e1
   split at hi
   ·cases hi
   ·rename_i e2
    cases h0:get h x with
    | none=>simp[h0]at hi
    | some o0=>simp[h0]at hi;exact⟨x,o0,h0,hi.symm,hx x e1,.inr ⟨e1,e2,rfl⟩⟩
 refine⟨⟨hh.heap.hg,hh.heap.kq,hh.heap.fresh,?_,?_,?_⟩,?_,hh.w8,hh.qB,hh.ye,hh.lk,fun x hp=>by
  have PT:x≠j:=by rintro rfl;exact Wv hp
  rw[(hx x PT).1,(hx x PT).2];exact hh.mB x hp,hh.wE⟩
 ·intro x o' hi
  obtain⟨y,o0,h0,rfl,hl,_⟩:=hg x o' hi;exact bE.move hj hx hl o0 (hu.heap y o0 h0) (hh.heap.obj y o0 h0)
 ·intro x o' hi hb
  obtain⟨y,o0,h0,rfl,hl,_⟩:=hg x o' hi;rw[hl.1];exact hh.heap.own y o0 h0 ((lB hl.2 o0).1 hb)
 ·intro x x' o' p hi yQ nZ kL he
  obtain⟨y,o0,h0,rfl,hl,hy⟩:=hg x o' hi;obtain⟨z,p0,xz,rfl,iF,hz⟩:=hg x' p yQ;rw[hl.1,iF.1]at he;have:=hh.heap.inj y z o0 p0 h0 xz ((lB hl.2 o0).1 nZ) ((lB iF.2 p0).1 kL) he;rcases hy with⟨rfl,rfl⟩|⟨h1,h2,rfl⟩<;>rcases hz with⟨rfl,rfl⟩|⟨h3,h4,rfl⟩
  ·rfl
  ·exact absurd this.symm h4
  ·exact absurd this h2
  ·exact this
 ·intro t v ht
  simp only[bC]at ht
  cases h0:get e t with
  | none=>simp[h0]at ht
  | some v0=>
   simp[h0]at ht;subst ht;obtain⟨x,jU,hr⟩:=hh.env t v0 h0;exact⟨x,jU,aR.move hj hx v0 x (hu.env t v0 h0) hr⟩
theorem wX{K:Env->ar->Prop}:∀ (l:List Nat) {L:Loc} {e:Env} {h:ar},(∀ d∈l,d<500000)->Good cx r m L F ⟨e,h,s⟩ a w->ry l e h K -> ∀ (B:Nat->Prop),(∀ d,B d->d<500000/\oy ⟨get e,get h⟩ d) ->
  ∃ e' h' L',K e' h'/\Good cx r m L' F ⟨e',h',s⟩ a w /\ ∀ d,d∈l\/B d->oy ⟨get e',get h'⟩ d
 | [],L,e,h,_,hg,hk,B,hB=>⟨e,h,L,hk,hg,fun d hd=>(hd.elim (fun h=>by cases h) fun h=>(hB d h).2)⟩
 | d::l,L,e,h,hl,hg,hk,B,hB=>by
  have hd:d<500000:=hl d (List.mem_cons_self ..);have kill:∀ k (e:Env) (h:ar),(∀ x,oy ⟨get e,get h⟩ x->oy ⟨get (cj (aB (aU k)) e),get (cj (Obj.aB (aU k)) h)⟩ x) /\
    (get h k=none->oy ⟨get (cj (aB (aU k)) e),get (cj (Obj.aB (aU k)) h)⟩ k):=by
   intro k e h;have hn:∀ x,(get h x=none)->(∀ y,x=y/\x≠k->¬ (∃ s v,get e s=some v/\fx v y)/\¬ (∃ s v,get h s=some v/\jG v y))->oy ⟨get (cj (aB (aU k)) e),get (cj (Obj.aB (aU k)) h)⟩ x:=by
    intro x h0 hy;refine⟨by simp[bC,h0],fun t v ht tI=>?_,fun t o ht tI=>?_⟩
    ·simp only[bC]at ht
     cases h1:get e t with
     | none=>simp[h1]at ht
     | some v0=>
      simp[h1]at ht;subst ht;obtain⟨y,h2,h3⟩:=lg (sF k) v0 x tI;exact(hy y h3).1 ⟨t,v0,h1,h2⟩
    ·simp only[bC]at ht
     cases h1:get h t with
     | none=>simp[h1]at ht
     | some v0=>
      simp[h1]at ht;subst ht;obtain⟨y,h2,h3⟩:=oP (sF k) v0 x tI;exact(hy y h3).2 ⟨t,v0,h1,h2⟩
   refine⟨fun x hx=>hn x hx.none fun y hy=>?_,fun h0=>hn k h0 fun y hy=>absurd rfl hy.2⟩;obtain⟨rfl,_⟩:=hy;exact⟨fun⟨t,v,h1,h2⟩=>hx.env t v h1 h2,fun⟨t,v,h1,h2⟩=>hx.heap t v h1 h2⟩
  have next:∀ (e2:Env) (h2:ar) (L2:Loc),Good cx r m L2 F ⟨e2,h2,s⟩ a w->oy ⟨get e2,get h2⟩ d->(∀ x,B x->oy ⟨get e2,get h2⟩ x)->ry l e2 h2 K ->
    ∃ e' h' L',K e' h'/\Good cx r m L' F ⟨e',h',s⟩ a w /\ ∀ x,x∈d::l\/B x->oy ⟨get e',get h'⟩ x:=by
   intro e2 h2 L2 lQ WA NI ji;obtain⟨e',h',L',k1,k2,k3⟩:=wX l (fun x hx=>hl x (List.mem_cons_of_mem _ hx)) lQ ji (fun x=>x=d\/B x) (fun x hx=>by
    rcases hx with rfl|hx
    ·exact⟨hd,WA⟩
    ·exact⟨(hB x hx).1,NI x hx⟩)
   refine⟨e',h',L',k1,k2,fun x hx=>k3 x ?_⟩;rcases hx with hx|hx
   ·rcases List.mem_cons.1 hx with rfl|hx
    ·exact .inr (.inl rfl)
    ·exact .inl hx
   ·exact .inr (.inr hx)
  have hk:(match get h d with
   | none=>dX (cj (aB (aU d)) e) fun e=>fw (cj (Obj.aB (aU d)) h) fun h=>ry l e h K
   | some _=>dX (cj (aB (fD d (500000+d))) (cj (aB (aU (500000+d))) e)) fun e=>
    fw (la d (500000+d) (cj (Obj.aB (aU (500000+d))) (cut h (500000+d)))) fun h=>ry l e h K):=hk
  split at hk
  ·rename_i h0
   rw[fX,fY]at hk;exact next _ _ L (hg.kill d) ((kill d e h).2 h0) (fun x hx=>(kill d e h).1 x (hB x hx).2) hk
  ·rename_i dv _ o0 h0
   clear dv;rw[fX,fY]at hk;have g9:Good cx r m L F ⟨e,cut h (500000+d),s⟩ a w:=hg.sub (fun _ _ h=>h) fun i o hi=>by
    rw[dz]at hi;split at hi
    ·cases hi
    ·exact hi
   have lQ:=g9.kill (500000+d);have hu:=(kill (500000+d) e (cut h (500000+d))).2 (by simp[dz]);have SA:∀ x,B x->oy ⟨get e,get (cut h (500000+d))⟩ x:=fun x hx=>by
    have hu:=(hB x hx).2;have pX:∀ i o,get (cut h (500000+d)) i=some o->get h i=some o:=fun i o hi=>by
     rw[dz]at hi;split at hi
     ·cases hi
     ·exact hi
    refine⟨?_,hu.env,fun i o hi=>hu.heap i o (pX i o hi)⟩
    cases hc:get (cut h (500000+d)) x with
    | none=>exact hc
    | some o=>have h1:=pX x o hc;have h2:get h x=none:=hu.none;rw[h2]at h1;cases h1
   have NI:=fun x hx=>(kill (500000+d) e (cut h (500000+d))).1 x (SA x hx);generalize cj (aB (aU (500000+d))) e=e1 at hk lQ hu NI;generalize cj (Obj.aB (aU (500000+d))) (cut h (500000+d))=h1 at hk lQ hu NI;have UX:∀ x,x≠500000+d->(x=d\/oy ⟨get e1,get h1⟩ x)->oy ⟨get (cj (aB (fD d (500000+d))) e1),get (la d (500000+d) h1)⟩ x:=by
    intro x hx Hb;have PN:∀ y,(y=d/\x=500000+d)\/(y≠d/\x=y)->x≠d/\x=y:=by
     rintro y (⟨_,h⟩|⟨h,rfl⟩)
     ·exact absurd h hx
     ·exact⟨h,rfl⟩
    have TQ:x≠d->oy ⟨get e1,get h1⟩ x:=fun h=>Hb.resolve_left h;refine⟨?_,fun t v ht tI=>?_,fun t o ht tI=>?_⟩
    ·show get (la d (500000+d) h1) x=none
     rw[qO h1 hu.none,if_neg hx];split
     ·rfl
     ·rename_i WI
      have:get h1 x=none:=(TQ WI).none;rw[this];rfl
    ·simp only[bC]at ht
     cases xp:get e1 t with
     | none=>simp[xp]at ht
     | some v0=>
      simp[xp]at ht;subst ht;obtain⟨y,h2,h3⟩:=lg (B5 d (500000+d)) v0 x tI;obtain⟨h4,rfl⟩:=PN y h3;exact(TQ h4).env t v0 xp h2
    ·have ht:get (la d (500000+d) h1) t=some o:=ht
     rw[qO h1 hu.none]at ht;have:∃ y o0,get h1 y=some o0/\o=Obj.aB (fD d (500000+d)) o0:=by
      split at ht
      ·cases xp:get h1 d with
       | none=>simp[xp]at ht
       | some v0=>simp[xp]at ht;exact⟨d,v0,xp,ht.symm⟩
      ·split at ht
       ·cases ht
       ·cases xp:get h1 t with
        | none=>simp[xp]at ht
        | some v0=>simp[xp]at ht;exact⟨t,v0,xp,ht.symm⟩
     obtain⟨z,o0,xp,rfl⟩:=this;obtain⟨y,h2,h3⟩:=oP (B5 d (500000+d)) o0 x tI;obtain⟨h4,rfl⟩:=PN y h3;exact(TQ h4).heap z o0 xp h2
   have S5:=lQ.move (i:=d) (j:=500000+d) (by unfold pinned;omega) (by omega) hu;exact next _ _ _ S5 (UX d (by omega) (.inl rfl)) (fun x hx=>UX x (by have:=(hB x hx).1;omega) (.inr (NI x hx))) hk
end
end Go.PX
namespace Go.PX
open Go.RowKit
structure vr(P:Program)(ops:Array Oper)(eO:List OT)(q:Rec):Prop where
 op:∃ o t,ops[q.idx]?=some o/\eO[q.idx]?=some t/\q.iz=t.iz/\(∀ x∈lr q.ws,o.dst=some x)/\(∀ x v,get q.e x=some v->x∈t.ts)
 hk:∀ x v,get q.h x=some v->x∈q.os
 news:dZ q.ws=true
 snd:rp P ops q
theorem apart_spec{a b:OO}(h:apart a b=true):jw a.mo b.os=true/\jw a.mo b.mo=true/\jw b.mo a.os=true/\jw b.nw a.sh=true:=by
 unfold apart at h;split at h
 ·rename_i h1 h2 h3 h4;exact⟨h1,h2,h3,h4⟩
 ·cases h
theorem nS{o:OO}{acc:List OO}:∀ {l:List Nat},js o acc l=true -> ∀ i∈l,∀ p,acc[i]?=some p->apart o p=true
 | [],_,i,hi,_,_=>by cases hi
 | k::r,h,i,hi,p,hp=>by
  simp only[js]at h;split at h;case h_2=>cases h
  rename_i p' CZ;split at h;case h_2=>cases h
  rename_i SL;rcases List.mem_cons.1 hi with rfl|hi
  ·rw[hp]at CZ;cases CZ;exact SL
  ·exact nS h i hi p hp
theorem rN{mk:List Nat}:∀ {acc:List OO},oQ mk acc=true -> ∀ p∈acc,jw mk p.sh=true/\jw mk p.mo=true
 | [],_,p,hp=>by cases hp
 | q::r,h,p,hp=>by
  simp only[oQ]at h;split at h;case h_2=>cases h
  rename_i h1 h2;rcases List.mem_cons.1 hp with rfl|hp
  ·exact⟨h1,h2⟩
  ·exact rN h p hp
theorem iw{α:Type}:∀ (l:List Nat) (t:sV α) (s:Nat) (u:α),get (aT l t) s=some u->s∈l
 | l,[],s,u,h=>by cases h
 | l,(k,v)::r,s,u,h=>by
  simp only[aT]at h;split at h
  ·rename_i hk
   simp only[get]at h;split at h
   ·rename_i he;have:=Nat.eq_of_beq_eq_true he;subst this;exact fG.1 hk
   ·exact iw l r s u h
  ·exact iw l r s u h
theorem gv{d:Option Nat}:∀ {ws:List Wr},mc d ws=true -> ∀ x∈lr ws,d=some x
 | [],_,x,hx=>by cases hx
 | w::r,h,x,hx=>by
  cases w with
  | set s v=>
   simp only[mc]at h;split at h;case h_2=>cases h
   rename_i k;split at h;case h_2=>cases h
   rename_i hk;simp only[lr,List.mem_cons]at hx;rcases hx with rfl|hx
   ·rw[Nat.eq_of_beq_eq_true hk]
   ·exact gv h x hx
  | _=>exact gv (ws:=r) h x hx
theorem EA{ops:Array Oper}{e:Env}{guard:Option (Nat×Bool)}{X Z:List Wr->Prop}(hk:lO ops.toList e guard X Z) :
  ∃ (b:Bool) (ws:List Wr),((b=true/\X ws)\/(b=false/\Z ws))/\(ws = [] \/ ∃ d v,ws = [.set d v]/\get e d=some v) /\
   ∀ {σ:Type} {cx:Cx σ} {r:Option Nat} {m:List Nat} {L:Loc} {F:Nat->Nat} {st:St σ} {a:Act} {w:World} {dst:Option Nat} {op:Op} {ty:TypeId} {pos:String} {after:Array Edge},
    cP e st.env->Good cx r m L F st a w->Region.wanted ⟨dst,op,ty,pos,after,guard⟩ (yielded ops a.tmps)=b:=by
 unfold lO at hk;split at hk
 ·exact⟨true,[],.inl ⟨rfl,hk⟩,.inl rfl,fun _ _=>rfl⟩
 ·rename_i j Li
  split at hk;case h_2=>exact hk.elim
  rename_i d _ _ _ _ _ hj;have yQ:(ops[j]?).bind (·.dst)=some d:=by
   rw[Array.getElem?_toList]at hj;rw[hj];rfl
  split at hk
  ·rename_i b hb
   have hy:∀ {σ:Type} {cx:Cx σ} {r:Option Nat} {m:List Nat} {L:Loc} {F:Nat->Nat} {st:St σ} {a:Act} {w:World},cP e st.env->Good cx r m L F st a w->yielded ops a.tmps j=some b:=by
    intro σ cx r m L F st a w he hg;obtain⟨x,hx,hr⟩:=hg.env d _ (he _ _ hb);have hr:x = .bool b:=hr;subst hr;unfold yielded;rw[yQ];simp[hx]
   split at hk
   ·rcases s8 hk with⟨rfl,hk⟩|⟨rfl,hk⟩
    ·exact⟨true,_,.inl ⟨rfl,hk⟩,.inr ⟨d,_,rfl,hb⟩,fun he hg=>by simp[Region.wanted,hy he hg]⟩
    ·exact⟨false,_,.inr ⟨rfl,hk⟩,.inr ⟨d,_,rfl,hb⟩,fun he hg=>by simp[Region.wanted,hy he hg]⟩
   ·rcases s8 hk with⟨rfl,hk⟩|⟨rfl,hk⟩
    ·exact⟨false,_,.inr ⟨rfl,hk⟩,.inr ⟨d,_,rfl,hb⟩,fun he hg=>by simp[Region.wanted,hy he hg]⟩
    ·exact⟨true,_,.inl ⟨rfl,hk⟩,.inr ⟨d,_,rfl,hb⟩,fun he hg=>by simp[Region.wanted,hy he hg]⟩
  ·rename_i hb
   refine⟨false,[],.inr ⟨rfl,hk⟩,.inl rfl,fun {σ cx r m L F st a w} _ _ _ _ _ he hg=>?_⟩;obtain⟨x,hx,l,rfl,hl⟩:=hg.env d _ (he _ _ hb);have hy:yielded ops a.tmps j=none:=by
    unfold yielded;rw[yQ];simp[hx]
   simp[Region.wanted,hy]
  ·exact hk.elim
theorem Ew{σ:Type}{e:Env}{h:ar}{s:σ}{ws:List Wr}(hw:ws = [] \/ ∃ d v,ws = [.set d v]/\get e d=some v):cm (aH (⟨e,h,s⟩:St σ) ws)=⟨get e,get h⟩:=by
 rcases hw with rfl|⟨d,v,rfl,hv⟩
 ·rfl
 ·simp only[cm,aH,br]
  congr 1
  funext x
  rw[dt];split
  ·rename_i he;subst he;exact hv.symm
  ·rfl
theorem Gb(P:Program)(T:dJ)(made:List Nat)(ops:List Oper)(dst:Option Nat)(op:Op)(ty:TypeId)(pos:String)(after:Array Edge)(guard:Option (Nat×Bool))(ts iz:List Nat)(l:List (Oper×OT))(acc:List OO)(e:Env)(h:ar)(K:Env->ar->Prop) :
  Cp P T made ops ((⟨dst,op,ty,pos,after,guard⟩,⟨ts,iz⟩)::l) acc e h K=(cY (looksAt op e h ts) fun os=>dX (aT ts e) fun e'=>fw (aT os h) fun h'=>
    lO ops e' guard
     (fun w=>
      let go:=fun ws=>cY (ca ws) fun mo=>cY (bn ws) fun mk=>cY (bM ws) fun sh=>
       eG (j6 dst made acc iz ws ⟨os,mo,mk,sh⟩) (a7 w e h fun e h=>a7 (o8 ws) e h fun e h=>Cp P T made ops l (acc ++ [⟨os,mo,mk,sh⟩]) e h K)
      match op with
      | .call ⟨callee,args,tys⟩=>match callee with
       | .builtin b=>dy T e' h' dst b args tys go
       | .value f=>match aD e' f,cI e' args.toList with
        | some (.d (.clo g aM)),some l=>cN P e' h' dst g (l++inj aM) go
        | some (.clo g aM),some l=>cN P e' h' dst g (l++aM) go
        | _,_=>False
       | .invoke f name=>match aD e' f,cI e' args.toList with
        | some (.d (.ifc t v)),some l=>Gv P t name fun g=>cN P e' h' dst g (.d v::l) go
        | _,_=>False
      | op=>eS T e' h' dst op go)
     (fun w=>eG (js ⟨os,[],[],[]⟩ acc iz) (a7 w e h fun e h=>a7 (aS dst (.d (.tup []))) e h fun e h=>Cp P T made ops l (acc ++ [⟨os,[],[],[]⟩]) e h K))):=rfl
section
variable {P : Program} {T : dJ}
theorem v7{ops:Array Oper}{q:Rec}{o:Oper}(ho:ops[q.idx]?=some o)
  (hw:∀ {σ:Type} {cx:Cx σ} {r:Option Nat} {m:List Nat} {L:Loc} {F:Nat->Nat} {st:St σ} {a:Act} {w:World},cP q.e st.env->Good cx r m L F st a w->Region.wanted o (yielded ops a.tmps)=true)
  (jB:Out P q.e q.h o q.ws) (vR:∀ c,o.op ≠ .defer c):rp P ops q:=by
 intro σ cx yS r m L F st a w he hh hg hd next Q hn
 simp only[wpOpIn,ho];rw[if_pos (hw he hg)];exact zy jB he hh hg (hd o ho) vR fun x L' F' w' eR tr=>hn _ L' F' w' (dG x) eR tr
theorem Db{ops:Array Oper}{q:Rec}{dst:Option Nat}{f:Operand}{n:String}{args:Array Operand}{tys:Array TypeId}{ty:TypeId}{pos:String}{after:Array Edge}{guard:Option (Nat×Bool)}
  (ho:ops[q.idx]?=some ⟨dst,.call ⟨.invoke f n,args,tys⟩,ty,pos,after,guard⟩)
  (hw:∀ {σ:Type} {cx:Cx σ} {r:Option Nat} {m:List Nat} {L:Loc} {F:Nat->Nat} {st:St σ} {a:Act} {w:World},cP q.e st.env->Good cx r m L F st a w->Region.wanted ⟨dst,.call ⟨.invoke f n,args,tys⟩,ty,pos,after,guard⟩ (yielded ops a.tmps)=true)
  {t:TypeId} {v:D} {g:FuncId} {l':List V} (hl:cI q.e args.toList=some l') (hf:aD q.e f=some (.d (.ifc t v)))
  (hm:∀ v w,(method (P.types.size+Made.depth) t v n).run P w = .ok (g,v) w)
  (jB:lC P q.e q.h dst g (.d v::l') q.ws):rp P ops q:=by
 intro σ cx yS r m L F st a w he hh hg hd next Q hn
 simp only[wpOpIn,ho];rw[if_pos (hw he hg)];obtain⟨nL,dn⟩:=jB;have eR:Good cx r m L F ⟨q.e,st.heap,st.s⟩ a w:=hg.sub he (fun _ _ h=>h);obtain⟨y,cF,hv⟩:=eR.aD hf;have ct:=y9 eR hl hv;have dn:=dn cx yS r m L F st a w (#[y]++args.map a.eval) he hh hg (hd _ ho) ct;refine⟨fun _ _=>trivial,?_⟩;rw[Oper.semAt_eq _ _ _ (fun c e=>by cases e),Cg hm nL cF,Oper.uponIn_enter];refine⟨(fun h=>by cases h),(g7 dn).mono ?_⟩;rintro en w' ⟨x,rfl,L',F',eR,o9⟩;exact hn _ L' F' w' (dG x) eR o9
theorem ud{ops:Array Oper}{q:Rec}{dst:Option Nat}{f:Operand}{args:Array Operand}{tys:Array TypeId}{ty:TypeId}{pos:String}{after:Array Edge}{guard:Option (Nat×Bool)}
  (ho:ops[q.idx]?=some ⟨dst,.call ⟨.value f,args,tys⟩,ty,pos,after,guard⟩)
  (hw:∀ {σ:Type} {cx:Cx σ} {r:Option Nat} {m:List Nat} {L:Loc} {F:Nat->Nat} {st:St σ} {a:Act} {w:World},cP q.e st.env->Good cx r m L F st a w->Region.wanted ⟨dst,.call ⟨.value f,args,tys⟩,ty,pos,after,guard⟩ (yielded ops a.tmps)=true)
  {g:FuncId} {yr:List V} {l':List V} (hl:cI q.e args.toList=some l')
  (hf:∀ {σ:Type} {cx:Cx σ} {r:Option Nat} {m:List Nat} {L:Loc} {F:Nat->Nat} {st:St σ} {a:Act} {w:World},cP q.e st.env->Good cx r m L F st a w -> ∃ lc:Array Value,a.eval f = .func (.func g) #[] lc/\ak cx.yv L F w yr lc.toList)
  (jB:lC P q.e q.h dst g (l'++yr) q.ws):rp P ops q:=by
 intro σ cx yS r m L F st a w he hh hg hd next Q hn
 simp only[wpOpIn,ho];rw[if_pos (hw he hg)];obtain⟨lc,cF,jA⟩:=hf he hg;obtain⟨nL,dn⟩:=jB;have rF:∃ vs:List Value,ak cx.yv L F w l' (args.toList.map a.eval):=⟨[],by
  have eR:Good cx r m L F ⟨q.e,st.heap,st.s⟩ a w:=hg.sub he (fun _ _ h=>h);exact eR.cI hl⟩
 obtain⟨_,rF⟩:=rF;have ct:ak cx.yv L F w (l'++yr) (args.map a.eval++lc).toList:=by
  simpa using rF.append jA
 have dn:=dn cx yS r m L F st a w (args.map a.eval++lc) he hh hg (hd _ ho) ct;have bp:(execOp a.eval ⟨dst,.call ⟨.value f,args,tys⟩,ty,pos,after,guard⟩).run P w = .ok (.enter g (args.map a.eval++lc)) w:=by
  simp[execOp,resolve,Deferred.ofValue,cF,invoke,nL]
 refine⟨fun _ _=>trivial,?_⟩;rw[Oper.semAt_eq _ _ _ (fun c e=>by cases e),bp,Oper.uponIn_enter];refine⟨(fun h=>by cases h),(g7 dn).mono ?_⟩;rintro en w' ⟨x,rfl,L',F',eR,o9⟩;exact hn _ L' F' w' (dG x) eR o9
theorem AT{ops:Array Oper}{q:Rec}{o:Oper}(ho:ops[q.idx]?=some o)(sB:q.ws=aS o.dst (.d (.tup [])))
  (hw:∀ {σ:Type} {cx:Cx σ} {r:Option Nat} {m:List Nat} {L:Loc} {F:Nat->Nat} {st:St σ} {a:Act} {w:World},cP q.e st.env->Good cx r m L F st a w->Region.wanted o (yielded ops a.tmps)=false):rp P ops q:=by
 intro σ cx yS r m L F st a w he hh hg hd next Q hn
 simp only[wpOpIn,ho];rw[if_neg (by rw[hw he hg];simp)];refine⟨fun _ _=>trivial,?_⟩;refine hn _ L F w (dG _) ?_ (Tr.refl F w);rw[sB];exact hg.aS (x:=undef) (hd o ho) ⟨#[],rfl,rfl⟩
theorem Gc(hT:aY P T){ops:Array Oper}{eO:List OT}{made:List Nat}(lR:qg ops.toList eO ops.toList eO=true):∀ (l:List (Oper×OT)) (acc:List Rec),(∀ j p,l[j]?=some p->ops[acc.length+j]?=some p.1/\eO[acc.length+j]?=some p.2) ->
  (∀ k q,acc[k]?=some q->q.idx=k/\vr P ops eO q)->acc.Pairwise Pr -> ∀ {e:Env} {h:ar} {K:Env->ar->Prop},Cp P T made ops.toList l (acc.map Rec.oo) e h K ->
  ∃ (R:List Rec) (eN:Env) (hN:ar),K eN hN/\nI R ⟨get e,get h⟩ ⟨get eN,get hN⟩/\R.length=l.length/\(∀ k q,(acc++R)[k]?=some q->q.idx=k/\vr P ops eO q)/\(acc++R).Pairwise Pr /\ ∀ q∈R,∀ x∈bn q.ws,x∈made
 | [],acc,_,hacc,u4,e,h,K,hk=>⟨[],e,h,hk,rfl,rfl,by simpa using hacc,by simpa using u4,fun q hq=>by cases hq⟩
 | (⟨dst,op,ty,pos,after,guard⟩,⟨ts,iz⟩)::l,acc,hl,hacc,u4,e,h,K,hk=>by
  obtain⟨ho,Hc⟩:=hl 0 (⟨dst,op,ty,pos,after,guard⟩,⟨ts,iz⟩) rfl;simp only[Nat.add_zero]at ho Hc;have iF:∀ j p,l[j]?=some p->ops[acc.length+1+j]?=some p.1/\eO[acc.length+1+j]?=some p.2:=fun j p hp=>by
   have:=hl (j+1) p (by simpa using hp)
   rwa [show acc.length+(j+1)=acc.length+1+j by omega]at this
  rw[Gb]at hk;rw[kT,fX,fY]at hk;generalize PO:looksAt op e h ts=os at hk;obtain⟨b,lw,NY,Az,od⟩:=EA hk;clear hk;have G7:lw = [] \/ ∃ d v,lw = [.set d v]/\get e d=some v:=Az.imp id fun⟨d,v,h1,h2⟩=>⟨d,v,h1,ia ts e d v h2⟩;have rest:∀ (ws:List Wr),dZ ws=true->mc dst ws=true->(∀ x∈bn ws,x∈made)->js ⟨os,ca ws,bn ws,bM ws⟩ (acc.map Rec.oo) iz=true->oQ (bn ws) (acc.map Rec.oo)=true ->
    rp P ops ⟨acc.length,aT ts e,aT os h,os,ws,iz⟩->(a7 lw e h fun e h=>a7 (o8 ws) e h fun e h=>Cp P T made ops.toList l (acc.map Rec.oo ++ [⟨os,ca ws,bn ws,bM ws⟩]) e h K) ->
    ∃ (R:List Rec) (eN:Env) (hN:ar),K eN hN/\nI R ⟨get e,get h⟩ ⟨get eN,get hN⟩/\R.length=l.length+1/\(∀ k q,(acc++R)[k]?=some q->q.idx=k/\vr P ops eO q)/\(acc++R).Pairwise Pr /\ ∀ q∈R,∀ x∈bn q.ws,x∈made:=by
   intro ws ES BW rG SL pW KF hk;rw[cd (),cd ()]at hk;have vP:=Ew (s:=()) (h:=h) G7;generalize (aH (⟨e,h,()⟩:St Unit) lw)=xV at hk vP;have N8:=yK ws (⟨xV.env,xV.heap,()⟩:St Unit);generalize (aH (⟨xV.env,xV.heap,()⟩:St Unit) (o8 ws))=ri at hk N8;have S2:(⟨get ri.env,get ri.heap⟩:Fs)=bL ⟨get e,get h⟩ ws:=by
    rw[<- vP];exact N8
   have hq:vr P ops eO ⟨acc.length,aT ts e,aT os h,os,ws,iz⟩:=
    ⟨⟨_,_,ho,Hc,rfl,gv BW,fun x v hx=>iw ts e x v hx⟩,fun x v hx=>iw os h x v hx,ES,KF⟩
   have Ku:∀ p∈acc,Pr p ⟨acc.length,aT ts e,aT os h,os,ws,iz⟩:=by
    intro p hp;obtain⟨k,eW,Wc⟩:=List.mem_iff_getElem.1 hp;have Og:acc[k]?=some p:=by rw[List.getElem?_eq_getElem eW,Wc]
    obtain⟨G3,Ou⟩:=hacc k p Og;have hG:p.oo∈acc.map Rec.oo:=List.mem_map.2 ⟨p,hp,rfl⟩;obtain⟨u2,Ko⟩:=rN pW p.oo hG;have u2:=fk u2;have Ko:=fk Ko;refine⟨by show p.idx<acc.length;omega,fun pd=>?_,u2,Ko⟩;have pd:p.idx∈iz:=pd;have ha:=apart_spec (nS SL p.idx pd p.oo (by rw[G3,List.getElem?_map,Og];rfl));have a1:=fk ha.1;have a2:=fk ha.2.1;have a3:=fk ha.2.2.1;have a4:=fk ha.2.2.2;obtain⟨po,pt,Tw,Hh,UO,AD,Kr⟩:=Ou.op;obtain⟨o1,t1,Om,TL,d1,d2,d3⟩:=rQ (qh lR acc.length _ _ (by simpa using ho) Hc) p.idx pd;have On:ops[p.idx]?=some o1:=by simpa using Om
    rw[Tw]at On;cases On;rw[Hh]at TL;cases TL;have sH:∀ {α:Type} {t:sV α} {x:Nat},(∀ v,get t x=some v->False)->get t x=none:=by
     intro α t x hx
     cases hc:get t x with
     | none=>rfl
     | some v=>exact(hx v hc).elim
    refine⟨⟨fun x hx=>?_,fun x hx=>?_,fun x hx jU=>?_,fun x hx jU=>?_,fun x hx=>a4 x hx⟩,⟨fun x hx=>?_,fun x hx=>?_,fun x hx jU=>?_,fun x hx jU=>?_,fun x hx=>u2 x hx⟩⟩
    ·exact sH fun v hv=>d1 x (AD x hx) (iw ts e x v hv)
    ·exact sH fun v hv=>a3 x hx (iw os h x v hv)
    ·exact d3 x (AD x hx) (gv BW x jU)
    ·exact a2 x jU hx
    ·exact sH fun v hv=>d2 x (gv BW x hx) (Kr x v hv)
    ·exact sH fun v hv=>a1 x hx (Ou.hk x v hv)
    ·exact d3 x (AD x jU) (gv BW x hx)
    ·exact a2 x hx jU
   have NQ:∀ k q,(acc ++ [(⟨acc.length,aT ts e,aT os h,os,ws,iz⟩:Rec)])[k]?=some q->q.idx=k/\vr P ops eO q:=by
    intro k q uS;rcases Nat.lt_trichotomy k acc.length with dN|heq|PH
    ·rw[List.getElem?_append_left dN]at uS
     exact hacc k q uS
    ·subst heq
     simp at uS;subst uS;exact⟨rfl,hq⟩
    ·rw[List.getElem?_eq_none (by simp;omega)]at uS
     cases uS
   have Tx:(acc ++ [(⟨acc.length,aT ts e,aT os h,os,ws,iz⟩:Rec)]).Pairwise Pr:=
    List.pairwise_append.2 ⟨u4,List.pairwise_singleton _ _,fun x hx y hy=>by
     rcases List.mem_singleton.1 hy with rfl;exact Ku x hx⟩
   obtain⟨R,eN,hN,k1,k2,k3,k4,k5,k6⟩:=Gc hT lR l (acc ++ [⟨acc.length,aT ts e,aT os h,os,ws,iz⟩]) (by simpa using iF) NQ Tx (e:=ri.env) (h:=ri.heap) (K:=K) (by simpa[Rec.oo]using hk);refine⟨⟨acc.length,aT ts e,aT os h,os,ws,iz⟩::R,eN,hN,k1,⟨⟨fun s v hs=>ia ts e s v hs,fun s v hs=>ia os h s v hs⟩,?_⟩,by simp[k3],?_,?_,?_⟩
   ·rw[<- S2];exact k2
   ·simpa using k4
   ·simpa using k5
   ·intro q hq x hx
    rcases List.mem_cons.1 hq with rfl|hq
    ·exact rG x hx
    ·exact k6 q hq x hx
  rcases NY with⟨rfl,hk⟩|⟨rfl,hk⟩
  ·
   have fin:∀ (ws:List Wr),rp P ops ⟨acc.length,aT ts e,aT os h,os,ws,iz⟩->(cY (ca ws) fun mo=>cY (bn ws) fun mk=>cY (bM ws) fun sh=>
       eG (j6 dst made (acc.map Rec.oo) iz ws ⟨os,mo,mk,sh⟩) (a7 lw e h fun e h=>a7 (o8 ws) e h fun e h=>Cp P T made ops.toList l (acc.map Rec.oo ++ [⟨os,mo,mk,sh⟩]) e h K)) ->
     ∃ (R:List Rec) (eN:Env) (hN:ar),K eN hN/\nI R ⟨get e,get h⟩ ⟨get eN,get hN⟩/\R.length=l.length+1/\(∀ k q,(acc++R)[k]?=some q->q.idx=k/\vr P ops eO q)/\(acc++R).Pairwise Pr /\ ∀ q∈R,∀ x∈bn q.ws,x∈made:=by
    intro ws KF hk;rw[kT,kT,kT]at hk;obtain⟨hc,hk⟩:=bw hk;unfold j6 at hc;split at hc;case h_2=>cases hc
    rename_i c1 c2 c3 c4 c5;exact rest ws c4 c5 (wD c3) c1 c2 KF hk
   by_cases dn:∃ c,op = .call c
   ·obtain⟨⟨callee,args,tys⟩,rfl⟩:=dn
    cases callee with
    | builtin bu=>
     obtain⟨ws,hk,jB⟩:=pC (P:=P) (ty:=ty) (pos:=pos) (after:=after) (guard:=guard) hT hk;exact fin ws (v7 (q:=⟨acc.length,aT ts e,aT os h,os,ws,iz⟩) ho (fun he hg=>od he hg) jB (fun c e=>by cases e)) hk
    | invoke f n=>
     have hk:(match aD (aT ts e) f,cI (aT ts e) args.toList with
        | some (.d (.ifc t v)),some l'=>Gv P t n fun g=>cN P (aT ts e) (aT os h) dst g (.d v::l') (fun ws=>cY (ca ws) fun mo=>cY (bn ws) fun mk=>cY (bM ws) fun sh=>
       eG (j6 dst made (acc.map Rec.oo) iz ws ⟨os,mo,mk,sh⟩) (a7 lw e h fun e h=>a7 (o8 ws) e h fun e h=>Cp P T made ops.toList l (acc.map Rec.oo ++ [⟨os,mo,mk,sh⟩]) e h K))
        | _,_=>False):=hk
     split at hk;case h_2=>exact hk.elim
     rename_i t v l' hf rF;obtain⟨g,hm,ws,hk,jB⟩:=hk;exact fin ws (Db (q:=⟨acc.length,aT ts e,aT os h,os,ws,iz⟩) ho (fun he hg=>od he hg) rF hf hm jB) hk
    | value f=>
     have hk:(match aD (aT ts e) f,cI (aT ts e) args.toList with
        | some (.d (.clo g aM)),some l'=>cN P (aT ts e) (aT os h) dst g (l'++inj aM) (fun ws=>cY (ca ws) fun mo=>cY (bn ws) fun mk=>cY (bM ws) fun sh=>
       eG (j6 dst made (acc.map Rec.oo) iz ws ⟨os,mo,mk,sh⟩) (a7 lw e h fun e h=>a7 (o8 ws) e h fun e h=>Cp P T made ops.toList l (acc.map Rec.oo ++ [⟨os,mo,mk,sh⟩]) e h K))
        | some (.clo g aM),some l'=>cN P (aT ts e) (aT os h) dst g (l'++aM) (fun ws=>cY (ca ws) fun mo=>cY (bn ws) fun mk=>cY (bM ws) fun sh=>
       eG (j6 dst made (acc.map Rec.oo) iz ws ⟨os,mo,mk,sh⟩) (a7 lw e h fun e h=>a7 (o8 ws) e h fun e h=>Cp P T made ops.toList l (acc.map Rec.oo ++ [⟨os,mo,mk,sh⟩]) e h K))
        | _,_=>False):=hk
     split at hk
     ·rename_i g aM l' hf rF
      obtain⟨ws,hk,jB⟩:=hk;refine fin ws (ud (q:=⟨acc.length,aT ts e,aT os h,os,ws,iz⟩) ho (fun he hg=>od he hg) rF (fun {σ cx r m L F st a w} he hg=>?_) jB) hk;have eR:Good cx r m L F ⟨aT ts e,st.heap,st.s⟩ a w:=hg.sub he (fun _ _ h=>h);obtain⟨lc,cF,jA⟩:=eR.aD hf;exact⟨lc,cF,ak.inj.2 jA⟩
     ·rename_i g aM l' hf rF
      obtain⟨ws,hk,jB⟩:=hk;refine fin ws (ud (q:=⟨acc.length,aT ts e,aT os h,os,ws,iz⟩) ho (fun he hg=>od he hg) rF (fun {σ cx r m L F st a w} he hg=>?_) jB) hk;have eR:Good cx r m L F ⟨aT ts e,st.heap,st.s⟩ a w:=hg.sub he (fun _ _ h=>h);obtain⟨lc,cF,jA⟩:=eR.aD hf;exact⟨lc,cF,jA⟩
     ·exact hk.elim
   ·have hk:eS T (aT ts e) (aT os h) dst op (fun ws=>cY (ca ws) fun mo=>cY (bn ws) fun mk=>cY (bM ws) fun sh=>
       eG (j6 dst made (acc.map Rec.oo) iz ws ⟨os,mo,mk,sh⟩) (a7 lw e h fun e h=>a7 (o8 ws) e h fun e h=>Cp P T made ops.toList l (acc.map Rec.oo ++ [⟨os,mo,mk,sh⟩]) e h K)):=by
     cases op<;>first|exact hk|exact absurd ⟨_,rfl⟩ dn
    have vR:∀ c,op ≠ .defer c:=fun c hc=>by subst hc;exact hk
    obtain⟨ws,hk,jB⟩:=xH (P:=P) (ty:=ty) (pos:=pos) (after:=after) (guard:=guard) hT hk;exact fin ws (v7 (q:=⟨acc.length,aT ts e,aT os h,os,ws,iz⟩) ho (fun he hg=>od he hg) jB vR) hk
  ·obtain⟨hc,hk⟩:=bw hk
   have h0:ca (aS dst (.d (.tup []))) = []/\bn (aS dst (.d (.tup []))) = []/\bM (aS dst (.d (.tup []))) = []/\dZ (aS dst (.d (.tup [])))=true/\mc dst (aS dst (.d (.tup [])))=true/\o8 (aS dst (.d (.tup [])))=aS dst (.d (.tup [])):=by
    cases dst with
    | none=>simp[aS,ca,bn,bM,dZ,mc,o8]
    | some d=>simp[aS,ca,bn,bM,dZ,mc,o8,bN,jw]
   obtain⟨z1,z2,z3,z4,z5,z6⟩:=h0;refine rest (aS dst (.d (.tup []))) z4 z5 (by rw[z2];intro x hx;cases hx) (by rw[z1,z2,z3];exact hc) (by
    rw[z2];have:∀ acc:List OO,oQ [] acc=true:=by
     intro acc
     induction acc with
     | nil=>rfl
     | cons p r ih=>simp[oQ,jw,ih]
    exact this _) (AT (q:=⟨acc.length,aT ts e,aT os h,os,aS dst (.d (.tup [])),iz⟩) ho rfl (fun he hg=>od he hg)) ?_
   rw[z1,z2,z3,z6];exact hk
theorem CH(hm:P.follows .mixedOrders=true)(hT:aY P T){ops:Array Oper}{rt:RT}(sd:jL ops.toList rt=true):DQ P T ops rt:=by
 intro σ cx yS r m L F e h s a w K hg hd hk id;have EY:=sd;simp only[jL,Bool.and_eq_true]at EY;obtain⟨⟨⟨⟨hlen,kV⟩,mR⟩,lR⟩,rG⟩:=EY;have hlen:=Nat.eq_of_beq_eq_true hlen;obtain⟨e1,h1,L1,hk,g9,hu⟩:=wX rt.made (fun d N4=>by
  have:=List.all_eq_true.1 rG d N4;exact Nat.le_of_ble_eq_true this) hg hk (fun _=>False) (fun _ h=>h.elim)
 obtain⟨R,eN,hN,k1,k2,k3,k4,k5,k6⟩:=Gc hT lR (ops.toList.zip rt.eO) [] (fun j p hp=>by
  have:=List.getElem?_zip_eq_some.1 hp;simpa using this) (fun k q hq=>by simp at hq) List.Pairwise.nil hk
 simp only[List.nil_append]at k4 k5;have Uv:R.length=ops.size:=by rw[k3,List.length_zip,hlen];simp[<- hlen]
 refine wpIn_region_any hm ?_;have Ig:Tr F w F { w with drawn:=w.drawn+1 }:=Tr.drew _;refine DB (cx:=cx) yS (r:=r) (m:=m) (s:=s) (n0:=a.tmps.size) (F0:=F) (w0:=w) (f':=⟨get eN,get hN⟩) sd hd (fun a' w' L' F' st hf hs eR tr hn=>?_) ops.size (l:=R) (st:=⟨e1,h1,s⟩)
  ⟨k5,fun q hq=>?_,fun q hq=>?_,fun q hq=>?_⟩ (g9.same (w':={ w with drawn:=w.drawn+1 }) rfl rfl rfl rfl) rfl Ig rfl (fun q hq x hx=>hu x (.inl (k6 q hq x hx))) k2 (by omega) ⟨fun i=>?_,by simp,fun j o hj=>?_⟩
 ·refine⟨eN,hN,s,L',F',rfl,⟨k1,rfl⟩,?_,tr,hn⟩
  have he:get st.env=get eN:=congrArg Fs.env hf;have hh:get st.heap=get hN:=congrArg Fs.heap hf;have:=eR.sub (e:=eN) (h:=hN) (fun x v hx=>by rw[he];exact hx) (fun x v hx=>by rw[hh];exact hx);rw[hs]at this;exact this
 ·obtain⟨k,eW,uS⟩:=List.mem_iff_getElem.1 hq
  exact(k4 k q (by rw[List.getElem?_eq_getElem eW,uS])).2.snd
 ·obtain⟨k,eW,uS⟩:=List.mem_iff_getElem.1 hq
  exact(k4 k q (by rw[List.getElem?_eq_getElem eW,uS])).2.news
 ·obtain⟨k,eW,uS⟩:=List.mem_iff_getElem.1 hq
  obtain⟨o,t,h1,h2,h3,_⟩:=(k4 k q (by rw[List.getElem?_eq_getElem eW,uS])).2.op;exact⟨t,h2,h3⟩
 ·rw[Array.getD_eq_getD_getElem?,Array.getElem?_replicate]
  constructor
  ·rintro ⟨q,hq,rfl⟩
   obtain⟨k,eW,uS⟩:=List.mem_iff_getElem.1 hq;have:=(k4 k q (by rw[List.getElem?_eq_getElem eW,uS])).1;rw[if_pos (by omega)];rfl
  ·intro hi
   by_cases DG:i<ops.size
   ·exact⟨R[i],List.getElem_mem ..,(k4 i R[i] (List.getElem?_eq_getElem (by omega))).1⟩
   ·rw[if_neg DG]at hi;simp at hi
 ·rw[Array.getD_eq_getD_getElem?,Array.getElem?_replicate]at hj
  split at hj<;>cases hj
def fL(ft:FT):Code->Bool
 | .region id ops draw=>match draw with
  | false=>true
  | true=>match get ft.tb id with
   | none=>true
   | some rt=>jL ops.toList rt
 | .seq a b=>fL ft a&&fL ft b
 | .cond _ a b=>fL ft a&&fL ft b
 | .block _ a=>fL ft a
 | .loop a=>fL ft a
 | .scope a=>fL ft a
 | .rangeFunc _ _ a b=>fL ft a&&fL ft b
 | _=>true
theorem ah(hm:P.follows .mixedOrders=true)(hT:aY P T){ft:FT}:∀ {c:Code},fL ft c=true->cE P T ft c
 | .region id ops draw,h=>by
  intro hd rt TG;subst hd;simp only[fL,TG]at h;exact CH hm hT h
 | .seq a b,h=>by
  simp only[fL,Bool.and_eq_true]at h;exact⟨ah hm hT h.1,ah hm hT h.2⟩
 | .cond _ a b,h=>by
  simp only[fL,Bool.and_eq_true]at h;exact⟨ah hm hT h.1,ah hm hT h.2⟩
 | .block _ a,h=>ah (c:=a) hm hT h
 | .loop a,h=>ah (c:=a) hm hT h
 | .scope a,h=>ah (c:=a) hm hT h
 | .rangeFunc _ _ a b,h=>by
  simp only[fL,Bool.and_eq_true]at h;exact⟨ah hm hT h.1,ah hm hT h.2⟩
 | .skip,_=>trivial
 | .exit _,_=>trivial
 | .label _,_=>trivial
 | .goto _,_=>trivial
 | .ret,_=>trivial
 | .refuse _,_=>trivial
end
def oY(tmps:Array Value)(r:ResultVar):Sem Value:=
 match r with
 | .tmp t=>pure (tmps.getD t undef)
 | .cell b t=>do loadVar t (<- asAddr (tmps.getD b undef))
theorem A3(fn:Func)(tmps:Array Value):results fn tmps=(do
  let vs <- fn.results.mapM (oY tmps)
  pure (if h:vs.size=1 then vs[0] else .tuple vs)):=rfl
section
variable {P : Program} {T : dJ}
theorem A2(hT:aY P T){e:Env}{h:ar}:∀ {rs:List ResultVar} {K:List V->Prop},FD T e h rs K ->
  ∃ l,K l /\ ∀ {σ:Type} {cx:Cx σ} {r:Option Nat} {m:List Nat} {L:Loc} {F:Nat->Nat} {s:σ} {a:Act} {w:World},Good cx r m L F ⟨e,h,s⟩ a w ->
   ∃ bh:List Value,(rs.mapM (oY a.tmps)).run P w = .ok bh w/\ak cx.yv L F w l bh
 | [],K,hk=>⟨[],hk,fun _=>⟨[],by simp,rfl⟩⟩
 | .tmp t::rs,K,hk=>by
  have hk:(match get e t with
   | some v=>FD T e h rs fun l=>K (v::l)
   | none=>False):=hk
  split at hk
  ·rename_i v hv
   obtain⟨l,hl,bp⟩:=A2 hT hk;refine⟨v::l,hl,fun {σ cx r m L F s a w} hg=>?_⟩;obtain⟨bh,hr,EW⟩:=bp hg;obtain⟨x,hx,Ox⟩:=hg.env t v hv;refine⟨x::bh,?_,x,bh,rfl,Ox,EW⟩;simp only[List.mapM_cons,Sem.run_bind,oY,Sem.run_pure,Result.andThen_ok,hr];simp[hx]
  ·exact hk.elim
 | .cell b t::rs,K,hk=>by
  have hk:zg T e h t (.tmp b) fun v=>FD T e h rs fun l=>K (v::l):=hk;obtain⟨v,hk,Oj⟩:=B2 (P:=P) hT hk;obtain⟨l,hl,bp⟩:=A2 hT hk;refine⟨v::l,hl,fun {σ cx r m L F s a w} hg=>?_⟩;obtain⟨bh,hr,EW⟩:=bp hg;obtain⟨bb,off,y,hu,hy,y5⟩:=Oj cx L F s (a.eval (.tmp b)) w h (fun _ _ h=>h) hg.heap (fun v hv=>hg.aD hv);have Lx:a.tmps.getD b undef = .pointer (some ⟨bb,off,none⟩):=hu;have Tu:(oY a.tmps (.cell b t)).run P w = .ok y w:=by simp[oY,Lx,asAddr,hy]
  refine⟨y::bh,?_,y,bh,rfl,y5,EW⟩;simp only[List.mapM_cons,Sem.run_bind,Tu,Result.andThen_ok,hr,Sem.run_pure]
theorem zI{fn:Func}{tmps:Array Value}{w:World}{bh:List Value}(h:(fn.results.toList.mapM (oY tmps)).run P w = .ok bh w):(results fn tmps).run P w = .ok (Ca bh) w:=by
 have Kl:(fn.results.mapM (oY tmps)).run P w = .ok bh.toArray w:=by
  rw[Array.mapM_eq_mapM_toList];simp only[Sem.run_map,h,Result.andThen_ok]
 rw[A3];simp only[Sem.run_bind,Kl,Result.andThen_ok,Sem.run_pure]
 congr 1
 match bh with
 | []=>rfl
 | [x]=>rfl
 | x::y::r=>simp[Ca]
theorem ba.Lh{σ:Type}{cx:Cx σ}{L:Loc}{F:Nat->Nat}{h:ar}{s:σ}{w:World}(hh:ba cx L F h s w){b:Nat}(hb:w.heap[b]?=some (.deferred (some [])))(hC:¬ cx.C s b) :
  ba cx L F h s (w.putObj b (.deferred none))/\Tr F w F (w.putObj b (.deferred none)):=by
 have hk:∀ x,x≠b->(w.putObj b (.deferred none)).heap[x]?=w.heap[x]?:=fun x hx=>by
  simp[World.putObj,Array.getElem?_setIfInBounds_ne (Ne.symm hx)]
 have NU:(w.putObj b (.deferred none)).heap[b]?=some (.deferred none):=by
  simp[World.putObj,Array.getElem?_setIfInBounds,(Array.getElem?_eq_some_iff.1 hb).1]
 have cM:(w.putObj b (.deferred none)).heap.size=w.heap.size:=by simp[World.putObj]
 have tr:Tr F w F (w.putObj b (.deferred none)):=by
  refine⟨rfl,rfl,rfl,by rw[cM];exact Nat.le_refl _,fun _=>Nat.le_refl _,fun x o hx=>?_,fun x en c hx hm=>?_⟩
  ·by_cases he:x=b
   ·subst he;simp[World.cell?,hb,NU]
   ·exact jg (hk x he)
  ·by_cases he:x=b
   ·subst he;rw[hb]at hm;cases hm
   ·rw[hk x he];exact hm
 have eX:∀ id o,get h id=some o->aG L id o->L.ρ id≠b:=by
  intro id o ho kW e;have:=hh.obj id o ho
  cases o with
  | box c=>obtain⟨c',T,hc,_⟩:=this;rw[e,hb]at hc;cases hc
  | arr sz es=>
   obtain⟨_,_,h⟩:=this;rcases h with⟨_,hk⟩|⟨c,T,hc,_⟩
   ·exact kW hk
   ·rw[e,hb]at hc;cases hc
  | map bT=>obtain⟨en,c,hc,_⟩:=this;rw[e,hb]at hc;cases hc
  | iter s n=>have hc:w.heap[L.ρ id]?=_:=this;rw[e,hb]at hc;cases hc
  | buf t s=>obtain⟨_,hc,_⟩:=this;rw[e,hb]at hc;cases hc
  | tb t l=>obtain⟨_,hc,_⟩:=this;rw[e,hb]at hc;cases hc
  | mit v n l u=>obtain⟨_,_,_,hc,_⟩:=this;rw[e,hb]at hc;cases hc
 refine⟨⟨cx.ff hh.hg tr (fun x hx=>hh.fresh x (by rw[<- cM];exact hx)) fun x hx=>⟨hk x (by rintro rfl;exact hC hx),rfl⟩,fun x hx=>by rw[cM];exact hh.kq x hx,fun x hx=>hh.fresh x (by rw[<- cM];exact hx),fun id o ho=>?_,hh.own,hh.inj⟩,tr⟩;exact bE.mono tr id o (fun _ _=>⟨rfl,rfl⟩) ⟨rfl,rfl⟩ (fun kW=>hk _ (eX id o ho kW)) (hh.obj id o ho)
theorem p9{σ:Type}{cx:Cx σ}{L:Loc}{F0:Nat->Nat}{w0:World}{h:ar}{s:σ}{fn:Func}{tmps:Array Value}{R:Ending->World->Prop}:∀ (m:List Nat) {F:Nat->Nat} {w:World},ba cx L F h s w->Tr F0 w0 F w ->
  (∀ b∈m,w.heap[b]?=some (.deferred (some []))/\¬ cx.C s b)->m.Nodup->(∀ w',ba cx L F h s w'->Tr F w F w' -> ∃ v,(results fn tmps).run P w' = .ok v w'/\R (.returned v) w') ->
  LeavesInM Fence.wide 0 P fn tmps R (m.map mark) .returning w
 | [],F,w,hh,tr,hm,hn,hR=>by
  simp only[List.map_nil,LeavesInM,LeavesIn];exact hR w hh (Tr.refl F w)
 | b::m,F,w,hh,tr,hm,hn,hR=>by
  obtain⟨hb,hC⟩:=hm b (List.mem_cons_self ..);obtain⟨sa,o9⟩:=hh.Lh hb hC;simp only[List.map_cons,LeavesInM];refine⟨by simp,.inl ⟨b,w.putObj b (.deferred none),rfl,?_,?_⟩⟩
  ·simp[Instr.takeDeferred,Sem.run_bind,getObj,setObj,Sem.run,hb,Result.andThen,World.putObj]
  ·have vR:=List.nodup_cons.1 hn
   refine p9 m sa (Tr.trans tr o9) (fun x hx=>?_) vR.2 fun w' h1 h2=>hR w' h1 (Tr.trans o9 h2);have Ho:x≠b:=by rintro rfl;exact vR.1 hx
   refine⟨?_,(hm x (List.mem_cons_of_mem _ hx)).2⟩;rw[<- (hm x (List.mem_cons_of_mem _ hx)).1];simp[World.putObj,Array.getElem?_setIfInBounds_ne (Ne.symm Ho)]
def uQ(ft:FT)(fn:Func)(n:Nat):Bool:=
 match fn.body with
 | some c => codeOk fn.ntmps c && fL ft c && Nat.ble fn.ntmps 1000000 && fn.name != "runtime.NumGoroutine" && Nat.ble n fn.ntmps
 | none=>false
theorem vK:∀ {args:List V} {i s:Nat} {v:V},get (mO i args) s=some v -> ∃ k,s=i+k/\args[k]?=some v
 | [],i,s,v,h=>by cases h
 | a::r,i,s,v,h=>by
  simp only[mO,get]at h;split at h
  ·rename_i he
   have:=Nat.eq_of_beq_eq_true he;subst this;cases h;exact⟨0,rfl,rfl⟩
  ·obtain⟨k,rfl,hk⟩:=vK h
   exact⟨k+1,by omega,by simpa using hk⟩
theorem ek(hm:P.follows .mixedOrders=true)(hT:aY P T){σ:Type}{Y:Hd σ}{f:FuncId}{fn:Func}{c:Code}(hf:P.funcs[f]?=some fn)(hb:fn.body=some c){ft:FT}{args:List V}(ec:uQ ft fn args.length=true)
  {h:ar} {s:σ} {Q:V->ar->σ->Prop} (hw:Dy P T ft Y.np c ⟨mO 0 args,h,s⟩ (Pv T fn.results.toList Q)):DD P Y f args h s Q:=by
 unfold uQ at ec;rw[hb]at ec;simp only[Bool.and_eq_true,bne_iff_ne,ne_eq]at ec;obtain⟨⟨⟨⟨N2,J2⟩,Tq⟩,Ok⟩,hlen⟩:=ec;have Tq:=Nat.le_of_ble_eq_true Tq;have hlen:=Nat.le_of_ble_eq_true hlen;refine⟨fun vs w=>by simp[callFunc,hf,Ok,hb,Go.mark],fun cx hY L F bh w hh hr=>?_⟩;have C3:bh.size=args.length:=by simpa using hr.length
 have cM:(bh++Array.replicate (fn.ntmps-bh.size) undef).size=fn.ntmps:=by simp;omega
 refine callsIn_of_wp_marks hf hb trivial ?_;have hg:Good { cx with pρ:=L.ρ,pκ:=L.κ,base:=[] } none [] L F ⟨mO 0 args,h,s⟩ { tmps:=bh++Array.replicate (fn.ntmps-bh.size) undef,defers:=[] } w:=by
  refine⟨⟨hh.hg,hh.kq,hh.fresh,hh.obj,hh.own,hh.inj⟩,fun t v ht=>?_,rfl,(fun b hb=>by cases hb),List.nodup_nil,(fun l hl=>by cases hl),fun _ _=>⟨rfl,rfl⟩,by rw[cM];exact Tq⟩;obtain⟨k,hk,hv⟩:=vK ht;rw[Nat.zero_add]at hk;subst hk;obtain⟨x,hx,Ox⟩:=hr.get t hv;refine⟨x,?_,Ox⟩;have dN:t<bh.size:=by
   have:=(List.getElem?_eq_some_iff.1 hx).1;simpa using this
  rw[Array.getElem?_append_left dN];simpa using hx
 have VL:cS P Y.np { cx with pρ:=L.ρ,pκ:=L.κ,base:=[] }:=by
  refine⟨?_,hY.laid⟩;intro l hl args h s Q hy L' F' bh w sa hr;obtain⟨fn,tmps,x8,body,h1,h2⟩:=hY.yld l hl args h s Q hy L' F' bh w ⟨sa.hg,sa.kq,sa.fresh,sa.obj,sa.own,sa.inj⟩ hr;refine⟨fn,tmps,x8,body,h1,h2.mono ?_⟩;rintro e w' ⟨x,he,v,h',s',Je,Ge,hq,kz,rest⟩;exact⟨x,he,v,h',s',Je,Ge,hq,⟨kz.hg,kz.kq,kz.fresh,kz.obj,kz.own,kz.inj⟩,rest⟩
 have KL:=cU hT c (ah hm hT J2) ⟨mO 0 args,h,s⟩ _ hw _ VL none [] L F _ w hg (by rw[cM];exact N2);have KL:c.wpIn Fence.wide 0 P _ { tmps:=bh++Array.replicate (fn.ntmps-bh.size) undef,defers:=[] } w:=KL;refine wpIn_mono KL fun ex a' w' hq=>?_;rcases hq with⟨e',dj,m',L',F',rfl,hk,eR,tr,hs⟩|⟨v,e',h',s',m',L',F',_,hy,_⟩
 case inr=>exact hy.elim
 have fin:Pv T fn.results.toList Q .normal dj->LeavesInM Fence.wide 0 P fn a'.tmps (fun e w'=>∃ x,e = .returned x /\ ∃ v h' s' L' F',Q v h' s'/\ba cx L' F' h' s' w'/\aR cx.yv L' F' w' v x/\Tr F w F' w'/\sR L L') a'.defers .returning w':=by
  intro hk;rw[eR.w8,List.append_nil];refine p9 m' eR.heap tr eR.qB eR.ye fun Cn kz Pl=>?_;obtain⟨e1,h1,s1⟩:=dj;have hk:FD T e1 h1 fn.results.toList fun l=>sU l h1 s1 Q:=hk;obtain⟨l,⟨TF⟩,bp⟩:=A2 (P:=P) hT hk;have Ka:Good { cx with pρ:=L.ρ,pκ:=L.κ,base:=[] } none [] L' F' ⟨e1,h1,s1⟩ { a' with defers:=[] } Cn:=by
   refine⟨kz,fun t v ht=>?_,rfl,(fun b hb=>by cases hb),List.nodup_nil,(fun l hl=>by cases hl),eR.mB,eR.wE⟩;obtain⟨x,hx,Ox⟩:=eR.env t v ht;exact⟨x,hx,aR.mono Pl v x (fun _ _=>⟨rfl,rfl⟩) Ox⟩
  obtain⟨Pn,Ky,EW⟩:=bp Ka;obtain⟨v,h',L2,F2,hq,V3,TD,DN,TZ⟩:=TF cx L' F' Pn Cn ⟨kz.hg,kz.kq,kz.fresh,kz.obj,kz.own,kz.inj⟩ EW;refine⟨_,zI Ky,_,rfl,v,h',s1,L2,F2,hq,V3,TD,Tr.trans tr (Tr.trans Pl DN),fun i hi=>?_⟩;obtain⟨p1,p2⟩:=TZ i hi;obtain⟨p3,p4⟩:=eR.mB i hi;exact⟨p1.trans p3,p2.trans p4⟩
 cases e' with
 | normal=>exact fin hk
 | ret=>exact fin hk
 | exit i=>exact hk.elim
end
def l6(R:Nat->Nat)(v:V):V:=
 match v with
 | .ptr i off=>.ptr (R i) off
 | .ep i sz k off=>.ep (R i) sz k off
 | .sl i sz off n=>.sl (R i) sz off n
 | .mp i=>.mp (R i)
 | .it i=>.it (R i)
 | v=>v
abbrev mC(R:Nat->Nat)(v:V):V:=aB (l6 R) v
abbrev oX(R:Nat->Nat)(v:List V):List V:=cr (l6 R) v
abbrev jW(R:Nat->Nat)(o:Obj):Obj:=Obj.aB (l6 R) o
section
variable {yv : Option Nat} {L L' : Loc} {F : Nat -> Nat} {w : World} {R : Nat -> Nat}
mutual
theorem aR.mC:∀ (v:V) (x:Value),(∀ i,fx v i->L'.ρ (R i)=L.ρ i/\L'.κ (R i)=L.κ i)->(aR yv L' F w (aB (l6 R) v) x↔aR yv L F w v x)
 | .d v,_,_=>Iff.rfl
 | .agg cs,x,hn=>by
  constructor
  ·rintro ⟨l,rfl,hl⟩;exact⟨l,rfl,(ak.mC cs _ hn).1 hl⟩
  ·rintro ⟨l,rfl,hl⟩;exact⟨l,rfl,(ak.mC cs _ hn).2 hl⟩
 | .tup cs,x,hn=>by
  constructor
  ·rintro ⟨l,rfl,hl⟩;exact⟨l,rfl,(ak.mC cs _ hn).1 hl⟩
  ·rintro ⟨l,rfl,hl⟩;exact⟨l,rfl,(ak.mC cs _ hn).2 hl⟩
 | .ptr id off,x,hn=>by
  show x = .pointer (some ⟨L'.ρ (R id),off,none⟩)↔x = .pointer (some ⟨L.ρ id,off,none⟩);rw[(hn id rfl).1]
 | .ep id sz k off,x,hn=>by
  show x = .pointer (some ⟨L'.ρ (R id),k*sz+off,none⟩)↔x = .pointer (some ⟨L.ρ id,k*sz+off,none⟩);rw[(hn id rfl).1]
 | .sl id sz off len,x,hn=>by
  show(∃ a cap,x = .slice a len cap/\len<=cap/\0<sz/\((len=0/\cap=0)\/(a=some ⟨L'.ρ (R id),off*sz,none⟩/\(off+cap)*sz<=L'.κ (R id)))) ↔
   (∃ a cap,x = .slice a len cap/\len<=cap/\0<sz/\((len=0/\cap=0)\/(a=some ⟨L.ρ id,off*sz,none⟩/\(off+cap)*sz<=L.κ id)))
  rw[(hn id rfl).1,(hn id rfl).2]
 | .mp id,x,hn=>by
  show x = .map (some (L'.ρ (R id)))↔x = .map (some (L.ρ id));rw[(hn id rfl).1]
 | .it id,x,hn=>by
  show x = .pointer (some ⟨L'.ρ (R id),0,none⟩)↔x = .pointer (some ⟨L.ρ id,0,none⟩);rw[(hn id rfl).1]
 | .clo f cs,x,hn=>by
  constructor
  ·rintro ⟨l,rfl,hl⟩;exact⟨l,rfl,(ak.mC cs _ hn).1 hl⟩
  ·rintro ⟨l,rfl,hl⟩;exact⟨l,rfl,(ak.mC cs _ hn).2 hl⟩
 | .yld,_,_=>Iff.rfl
 | .unk,_,_=>Iff.rfl
theorem ak.mC:∀ (vs:List V) (l:List Value),(∀ i,bt vs i->L'.ρ (R i)=L.ρ i/\L'.κ (R i)=L.κ i)->(ak yv L' F w (cr (l6 R) vs) l↔ak yv L F w vs l)
 | [],_,_=>Iff.rfl
 | v::r,l,hn=>by
  simp only[cr,ak];constructor
  ·rintro ⟨x,l',rfl,hv,hl⟩;exact⟨x,l',rfl,(aR.mC v x fun i hi=>hn i (.inl hi)).1 hv,(ak.mC r l' fun i hi=>hn i (.inr hi)).1 hl⟩
  ·rintro ⟨x,l',rfl,hv,hl⟩;exact⟨x,l',rfl,(aR.mC v x fun i hi=>hn i (.inl hi)).2 hv,(ak.mC r l' fun i hi=>hn i (.inr hi)).2 hl⟩
end
theorem sg{f:V->V}{sz:Nat}{l:List (List V)}:cy sz (cG f l)↔cy sz l:=by
 induction l with
 | nil=>exact Iff.rfl
 | cons e r ih=>
  simp only[cG,cy,List.forall_mem_cons,ik];exact and_congr Iff.rfl ih
theorem zh{f:V->V}{l:List (List V)}:cG f l = []↔l = []:=by cases l<;>simp[cG]
theorem bE.mC(id:Nat)(o:Obj)(hn:∀ i,jG o i->L'.ρ (R i)=L.ρ i/\L'.κ (R i)=L.κ i){lT:Nat}(eb:L'.ρ lT=L.ρ id/\L'.κ lT=L.κ id) :
  bE yv L' F w lT (jW R o)↔bE yv L F w id o:=by
 cases o with
 | box c=>
  cases c with
  | dd l=>
   simp only[bE,Obj.aB,eb.1,Cells.a5,ak.inj]
  | vv l=>
   simp only[bE,Obj.aB,eb.1,Cells.a5];refine exists_congr fun c=>exists_congr fun T=>and_congr Iff.rfl (ak.mC l _ hn)
 | arr sz es=>
  cases es with
  | dd l=>
   simp only[bE,Obj.aB,eb.1,eb.2,aI.a5,dB,ak.inj]
  | vv l=>
   simp only[bE,Obj.aB,eb.1,eb.2,aI.a5];rw[sg,zh,eZ,ez];refine and_congr Iff.rfl (and_congr Iff.rfl (or_congr Iff.rfl ?_));refine exists_congr fun c=>exists_congr fun T=>and_congr Iff.rfl (and_congr Iff.rfl (and_congr Iff.rfl (ak.mC l.flatten _ hn)))
 | map bT=>simp only[bE,Obj.aB,eb.1]
 | iter s n=>simp only[bE,Obj.aB,eb.1]
 | buf t s=>simp only[bE,Obj.aB,eb.1,eb.2]
 | tb t l=>
  simp only[bE,Obj.aB,eb.1];refine exists_congr fun c=>and_congr Iff.rfl (ak.mC l _ hn)
 | mit v n l u=>
  simp only[bE,Obj.aB,eb.1];refine exists_congr fun r=>exists_congr fun seen=>and_congr (aR.mC v _ hn) Iff.rfl
theorem bP(id:Nat)(o:Obj){lT:Nat}(hk:L'.κ lT=L.κ id):aG L' lT (jW R o)↔aG L id o:=lB hk o
end
def dM(tb:List Nat)(d:Nat)(i:Nat):Nat:=
 match Nat.blt i 1000000 with
 | true=>i
 | false=>match Nat.blt i 2000000 with
  | true=>match tb[i-1000000]? with
   | some k=>k
   | none=>0
  | false=>100000+64*d+(i-2000000)
def cz:ar->List Nat
 | []=>[]
 | (i,_)::r=>match Nat.blt i 2000000 with
  | true=>cz r
  | false=>i::cz r
def jD(R:Nat->Nat)(h':ar):Nat->List Nat->List Wr
 | _,[]=>[]
 | i,k::r=>(match get h' i with
  | some o=>.obj k (jW R o)
  | none=>.del k)::jD R h' (i+1) r
def mY(R:Nat->Nat)(h':ar):List Nat->List Wr
 | []=>[]
 | i::r=>(match get h' i with
  | some o=>.new (R i) (jW R o)
  | none=>.new (R i) (.box (.dd [])))::mY R h' r
def cX(tb:List Nat)(d:Option Nat)(v:V)(h':ar):List Wr:=
 let R:=dM tb (d.getD 0)
 mY R h' (cz h')++(jD R h' 1000000 tb++aS d (mC R v))
def hX:List Nat->Bool
 | []=>true
 | k::r=>!AH r k&&hX r
def vt(n:Nat)(nk:List Nat):List Nat->Bool
 | []=>true
 | i::r=>(Nat.ble 1000000 i&&Nat.blt i (1000000+n)||AH nk i)&&vt n nk r
def cf:ar->List Nat
 | []=>[]
 | (i,o)::r=>i::(e6 o++cf r)
def hU(R:Nat->Nat)(h:ar):Nat->List Nat->ar->Prop
 | _,[],h0=>h0 = []
 | i,k::r,h0=>∃ o h1,h0=(i,o)::h1/\get h k=some (jW R o)/\hU R h (i+1) r h1
def gT(tb:List Nat)(d:Option Nat)(v:V)(h':ar):Bool:=
 hX tb&&Nat.ble (cz h').length 64&&hX (cz h')&&jw tb ((cz h').map (dM tb (d.getD 0)))&&vt tb.length (cz h') (cf h')&&vt tb.length (cz h') (bN v) &&
  (cz h').all (fun i=>Nat.blt i 2000064)&&Nat.ble (d.getD 0) 10000&&Nat.ble tb.length 1000&&dZ (cX tb d v h')
def Cr(P:Program)(f:FuncId)(args:List V)(h:ar)(Q:V->ar->Prop):Prop:=
 ∀ {σ:Type} (Y:Hd σ) (s:σ),DD P Y f args h s fun v h' s'=>Q v h'/\s'=s
theorem gn:∀ {l:List Nat},hX l=true->l.Nodup
 | [],_=>List.nodup_nil
 | k::r,h=>by
  simp only[hX,Bool.and_eq_true,Bool.not_eq_true']at h;refine List.nodup_cons.2 ⟨fun hm=>?_,gn h.2⟩;rw[fG.2 hm]at h;cases h.1
theorem oz{n:Nat}{nk:List Nat}:∀ {l:List Nat},vt n nk l=true -> ∀ i∈l,(1000000<=i/\i<1000000+n)\/i∈nk
 | [],_,i,hi=>by cases hi
 | k::r,h,i,hi=>by
  simp only[vt,Bool.and_eq_true,Bool.or_eq_true]at h;rcases List.mem_cons.1 hi with rfl|hi
  ·exact h.1.imp (fun h=>⟨Nat.le_of_ble_eq_true h.1,Nat.le_of_ble_eq_true h.2⟩) fG.1
  ·exact oz h.2 i hi
theorem aP:∀ {h:ar} {i:Nat} {o:Obj},get h i=some o->i∈cf h /\ ∀ x∈e6 o,x∈cf h
 | [],i,o,h=>by cases h
 | (k,p)::r,i,o,h=>by
  simp only[get]at h;split at h
  ·rename_i he
   have:=Nat.eq_of_beq_eq_true he;subst this;cases h;exact⟨by simp[cf],fun x hx=>by simp[cf,hx]⟩
  ·obtain⟨h1,h2⟩:=aP h
   exact⟨by simp[cf,h1],fun x hx=>by simp[cf,h2 x hx]⟩
theorem lZ:∀ {h:ar} {i:Nat},i∈cz h->2000000<=i
 | [],i,h=>by cases h
 | (k,p)::r,i,h=>by
  simp only[cz]at h;split at h
  ·exact lZ h
  ·rename_i hk
   rcases List.mem_cons.1 h with rfl|h
   ·rcases Nat.lt_or_ge i 2000000 with dN|EJ
    ·rw[show Nat.blt i 2000000=true from Nat.ble_eq_true_of_le dN]at hk;cases hk
    ·exact EJ
   ·exact lZ h
theorem oA{tb:List Nat}{d k id:Nat}(hk:tb[k]?=some id)(hl:tb.length<=1000):dM tb d (1000000+k)=id:=by
 have dN:k<tb.length:=(List.getElem?_eq_some_iff.1 hk).1;unfold dM;have h1:Nat.blt (1000000+k) 1000000=false:=by
  rw[Bool.eq_false_iff];intro h;have:=Nat.le_of_ble_eq_true h;omega
 have h2:Nat.blt (1000000+k) 2000000=true:=Nat.ble_eq_true_of_le (by omega);rw[h1,h2];simp only[show 1000000+k-1000000=k by omega,hk]
theorem Cw{tb:List Nat}{d i:Nat}(hi:2000000<=i):dM tb d i=100000+64*d+(i-2000000):=by
 unfold dM;have h1:Nat.blt i 1000000=false:=by
  rw[Bool.eq_false_iff];intro h;have:=Nat.le_of_ble_eq_true h;omega
 have h2:Nat.blt i 2000000=false:=by
  rw[Bool.eq_false_iff];intro h;have:=Nat.le_of_ble_eq_true h;omega
 rw[h1,h2]
theorem rH{R:Nat->Nat}{h:ar}:∀ {tb:List Nat} {b:Nat} {h0:ar},hU R h b tb h0 -> ∀ i o,get h0 i=some o -> ∃ k id,i=b+k/\tb[k]?=some id/\get h id=some (jW R o)
 | [],b,h0,hl,i,o,hi=>by
  have:h0 = []:=hl;subst this;cases hi
 | id::r,b,h0,hl,i,o,hi=>by
  obtain⟨o',h1,rfl,hg,hl⟩:=hl;simp only[get]at hi;split at hi
  ·rename_i he
   have:=Nat.eq_of_beq_eq_true he;subst this;cases hi;exact⟨0,id,rfl,by simp,hg⟩
  ·obtain⟨k,lT,rfl,hk,eR⟩:=rH hl i o hi
   exact⟨k+1,lT,by omega,by simpa using hk,eR⟩
def oC{σ:Type}(st:St σ):List Nat->St σ
 | []=>st
 | i::r=>oC ⟨cj (aB (aU i)) st.env,cj (Obj.aB (aU i)) (cut st.heap i),st.s⟩ r
def vT:List Nat->V->V
 | [],v=>v
 | i::r,v=>vT r (aB (aU i) v)
def mS:List Nat->Obj->Obj
 | [],v=>v
 | i::r,v=>mS r (Obj.aB (aU i) v)
theorem Ix{σ:Type}:∀ (l:List Nat) (st:St σ),(oC st l).s=st.s
 | [],_=>rfl
 | _::r,st=>by rw[oC,Ix r]
theorem pE{σ:Type}:∀ (l:List Nat) (st:St σ) (x:Nat),get (oC st l).env x=(get st.env x).map (vT l)
 | [],st,x=>by cases h:get st.env x<;>simp[oC,vT,h]
 | i::r,st,x=>by
  rw[oC,pE r,bC];cases h:get st.env x<;>simp[vT]
theorem kP{σ:Type}:∀ (l:List Nat) (st:St σ) (x:Nat),get (oC st l).heap x=if x∈l then none else (get st.heap x).map (mS l)
 | [],st,x=>by cases h:get st.heap x<;>simp[oC,mS,h]
 | i::r,st,x=>by
  rw[oC,kP r,bC,dz];by_cases h1:x∈r
  ·simp[h1]
  ·by_cases h2:x=i
   ·simp[h2]
   ·cases h:get st.heap x<;>simp[h1,h2,mS]
theorem zd:∀ (l:List Nat) (v:V),(∀ i∈l,¬ fx v i)->vT l v=v
 | [],_,_=>rfl
 | i::r,v,h=>by
  rw[vT,sD i v (h i (List.mem_cons_self ..))];exact zd r v fun j hj=>h j (List.mem_cons_of_mem _ hj)
theorem qU:∀ (l:List Nat) (v:Obj),(∀ i∈l,¬ jG v i)->mS l v=v
 | [],_,_=>rfl
 | i::r,v,h=>by
  rw[mS,zc i v (h i (List.mem_cons_self ..))];exact qU r v fun j hj=>h j (List.mem_cons_of_mem _ hj)
section
variable {σ : Type} {cx : Cx σ} {r : Option Nat} {m : List Nat} {L : Loc} {F : Nat -> Nat} {a : Act} {w : World}
theorem Good.oC:∀ (l:List Nat) {st:St σ},Good cx r m L F st a w->Good cx r m L F (oC st l) a w
 | [],st,h=>h
 | i::l,st,h=>by
  have h1:Good cx r m L F ⟨st.env,cut st.heap i,st.s⟩ a w:=h.del i;exact Good.oC l (h1.kill i)
end
theorem tR{e:Env}{h:ar}(k:Nat){x:Nat}(hx:x=k\/oy ⟨get e,get h⟩ x):oy ⟨get (cj (aB (aU k)) e),get (cj (Obj.aB (aU k)) (cut h k))⟩ x:=by
 refine⟨?_,fun t v ht tI=>?_,fun t o ht tI=>?_⟩
 ·show get _ x=none
  rw[bC,dz];split
  ·rfl
  ·rename_i OG
   have:get h x=none:=(hx.resolve_left OG).none;rw[this];rfl
 ·simp only[bC]at ht
  cases h1:get e t with
  | none=>simp[h1]at ht
  | some v0=>
   simp[h1]at ht;subst ht;obtain⟨y,h2,rfl,h3⟩:=lg (sF k) v0 x tI;exact(hx.resolve_left h3).env t v0 h1 h2
 ·simp only[bC,dz]at ht
  split at ht
  ·cases ht
  ·cases h1:get h t with
   | none=>simp[h1]at ht
   | some v0=>
    simp[h1]at ht;subst ht;obtain⟨y,h2,rfl,h3⟩:=oP (sF k) v0 x tI;exact(hx.resolve_left h3).heap t v0 h1 h2
theorem BC{σ:Type}:∀ (l:List Nat) (st:St σ) (B:Nat->Prop),(∀ x,B x->oy (cm st) x) -> ∀ x,x∈l\/B x->oy (cm (oC st l)) x
 | [],st,B,hB,x,hx=>hB x (hx.resolve_left (by simp))
 | i::l,st,B,hB,x,hx=>by
  rw[oC];refine BC l ⟨cj (aB (aU i)) st.env,cj (Obj.aB (aU i)) (cut st.heap i),st.s⟩ (fun y=>y=i\/B y) (fun y hy=>tR i (hy.imp id (hB y))) x ?_;rcases hx with hx|hx
  ·rcases List.mem_cons.1 hx with rfl|hx
   ·exact .inr (.inl rfl)
   ·exact .inl hx
  ·exact .inr (.inr hx)
theorem yJ{σ:Type}:∀ (ws:List Wr) (st:St σ),dZ ws=true->cm (aH st ws)=bL (cm (oC st (bn ws))) ws
 | [],st,_=>rfl
 | w::r,st,ec=>by
  obtain⟨h1,h2,h3,h4⟩:=rP ec;rw[aH,yJ r _ h1,bL]
  congr 1
  have put:∀ (i:Nat) (o:Obj),(∀ x∈bn r,x∉e6 o)->(∀ x∈bn r,x≠i) -> ∀ (e:Env) (h:ar) (s:σ),
    cm (oC (⟨e,put h i o,s⟩:St σ) (bn r))=⟨(cm (oC (⟨e,h,s⟩:St σ) (bn r))).env,fun x=>if x=i then some o else (cm (oC (⟨e,h,s⟩:St σ) (bn r))).heap x⟩:=by
   intro i o ho hi e h s
   ext1
   ·funext x;simp only[cm,pE]
   ·funext x
    simp only[cm,kP,dt];by_cases hx:x=i
    ·subst hx
     rw[if_neg (fun hm=>hi x hm rfl),if_pos rfl,if_pos rfl];simp only[Option.map_some];rw[qU _ _ fun j hj hn=>ho j hj (dE j o hn)]
    ·simp only[hx,if_false]
  have one:∀ (i:Nat) (o:Obj),(∀ x∈bn r,x∉e6 o)->(∀ x∈bn r,x≠i) -> ∀ (e:Env) (h:ar) (s:σ),
    cm (oC (⟨e,(i,o)::h,s⟩:St σ) (bn r))=⟨(cm (oC (⟨e,h,s⟩:St σ) (bn r))).env,fun x=>if x=i then some o else (cm (oC (⟨e,h,s⟩:St σ) (bn r))).heap x⟩:=by
   intro i o ho hi e h s
   ext1
   ·funext x;simp only[cm,pE]
   ·funext x
    simp only[cm,kP,eM];by_cases hx:x=i
    ·subst hx
     rw[if_neg (fun hm=>hi x hm rfl),if_pos rfl,if_pos rfl];simp only[Option.map_some];rw[qU _ _ fun j hj hn=>ho j hj (dE j o hn)]
    ·simp only[hx,if_false]
  cases w with
  | set s v=>
   simp only[br,bn,eQ]
   ext1
   ·funext x
    simp only[cm,pE,dt];split
    ·simp only[Option.map_some]
     rw[zd _ _ fun j hj hn=>h2 j hj (by simp[bM,gm j v hn])]
    ·rfl
   ·funext x;simp only[cm,kP]
  | obj i o=>
   simp only[br,bn,eQ];exact put i o (fun x hx=>by simpa[bM]using h2 x hx) (fun x hx he=>by obtain⟨_,hd⟩:=h3 x hx (by simp[ca,he]);cases hd) _ _ _
  | new i o=>
   simp only[br,bn,eQ];rw[oC];exact one i o (fun x hx=>by simpa[bM]using h2 x hx) (fun x hx he=>by obtain⟨_,hd⟩:=h3 x hx (by simp[ca,he]);cases hd) _ _ _
  | newq i o=>exact absurd rfl (h4 i o)
  | del i=>
   simp only[br,bn,eQ]
   ext1
   ·funext x;simp only[cm,pE]
   ·funext x
    simp only[cm,kP,dz];by_cases h1:x=i
    ·simp[h1]
    ·simp[h1]
theorem x5(a b:List Wr):bn (a++b)=bn a++bn b:=by
 induction a with
 | nil=>rfl
 | cons w r ih=>cases w<;>simp[bn,ih]
theorem iU(f:Fs)(a b:List Wr):bL f (a++b)=bL (bL f a) b:=by
 induction a generalizing f with
 | nil=>rfl
 | cons w r ih=>simp[bL,ih]
theorem Bi(d:Option Nat)(v:V):bn (aS d v) = []:=by cases d<;>rfl
theorem uP(R:Nat->Nat)(h':ar):∀ (l:List Nat) (i:Nat),bn (jD R h' i l) = []
 | [],_=>rfl
 | k::r,i=>by
  simp only[jD];split<;>simp[bn,uP R h' r]
theorem wG(R:Nat->Nat)(h':ar):∀ (l:List Nat),bn (mY R h' l)=l.map R
 | []=>rfl
 | k::r=>by
  simp only[mY];split<;>simp[bn,wG R h' r]
theorem Bh(tb:List Nat)(d:Option Nat)(v:V)(h':ar):bn (cX tb d v h')=(cz h').map (dM tb (d.getD 0)):=by
 simp only[cX,x5,wG,uP,Bi,List.append_nil]
theorem vW(R:Nat->Nat)(h':ar):∀ (l:List Nat) (b:Nat) (f:Fs) (x:Nat) (o:Obj),(bL f (jD R h' b l)).heap x=some o ->
  (∃ k o0,l[k]?=some x/\get h' (b+k)=some o0/\o=jW R o0)\/(x∉l/\f.heap x=some o)
 | [],b,f,x,o,h=>.inr ⟨by simp,h⟩
 | k::r,b,f,x,o,h=>by
  simp only[jD,bL]at h;rcases vW R h' r (b+1) _ x o h with⟨j,o0,h1,h2,h3⟩|⟨h1,h2⟩
  ·exact .inl ⟨j+1,o0,by simpa using h1,by rw[show b+(j+1)=b+1+j by omega];exact h2,h3⟩
  ·by_cases hx:x=k
   ·subst hx
    left;split at h2
    ·rename_i o0 ho
     simp only[eQ,if_true,Option.some.injEq]at h2;exact⟨0,o0,by simp,ho,h2.symm⟩
    ·simp[eQ]at h2
   ·right
    refine⟨by simp[hx,h1],?_⟩;split at h2
    ·simpa[eQ,hx]using h2
    ·simpa[eQ,hx]using h2
theorem tU(R:Nat->Nat)(h':ar):∀ (l:List Nat) (b:Nat) (f:Fs),(bL f (jD R h' b l)).env=f.env
 | [],b,f=>rfl
 | k::r,b,f=>by
  simp only[jD,bL];rw[tU R h' r];split<;>rfl
theorem zk(R:Nat->Nat)(h':ar):∀ (l:List Nat) (f:Fs) (x:Nat) (o:Obj),(∀ i∈l,(get h' i).isSome)->(bL f (mY R h' l)).heap x=some o ->
  (∃ i o0,i∈l/\x=R i/\get h' i=some o0/\o=jW R o0)\/(x∉l.map R/\f.heap x=some o)
 | [],f,x,o,_,h=>.inr ⟨by simp,h⟩
 | k::r,f,x,o,hl,h=>by
  simp only[mY,bL]at h;rcases zk R h' r _ x o (fun i hi=>hl i (List.mem_cons_of_mem _ hi)) h with⟨i,o0,h1,h2,h3⟩|⟨h1,h2⟩
  ·exact .inl ⟨i,o0,List.mem_cons_of_mem _ h1,h2,h3⟩
  ·obtain⟨o0,ho⟩:=Option.isSome_iff_exists.1 (hl k (List.mem_cons_self ..))
   simp only[ho,eQ]at h2;by_cases hx:x=R k
   ·subst hx
    simp only[if_true,Option.some.injEq]at h2;exact .inl ⟨k,o0,List.mem_cons_self ..,rfl,ho,h2.symm⟩
   ·exact .inr ⟨by simpa[hx]using h1,by simpa[hx]using h2⟩
theorem xE(R:Nat->Nat)(h':ar):∀ (l:List Nat) (f:Fs),(bL f (mY R h' l)).env=f.env
 | [],f=>rfl
 | k::r,f=>by
  simp only[mY,bL];rw[xE R h' r];split<;>rfl
theorem rO:∀ {h:ar} {i:Nat},i∈cz h->(get h i).isSome
 | [],i,h=>by cases h
 | (k,p)::r,i,h=>by
  simp only[get];split
  ·rfl
  ·rename_i hk
   refine rO ?_;simp only[cz]at h;split at h
   ·exact h
   ·rcases List.mem_cons.1 h with rfl|h
    ·simp at hk
    ·exact h
end Go.PX
