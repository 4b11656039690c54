import Derived.Test.YtmbefpmbnhdbpaaGreatDoorPxA
import Derived.ProofKit
import Derived.ChangeKeysEq
set_option linter.all false
namespace Go.PX
open Go.RowKit
theorem fW{α:Type}(t:xA α)(s:Nat)(v:α)(x:Nat):get ((s,v)::t) x=if x=s then some v else get t x:=by
 by_cases h:x=s
 ·subst h;simp[get]
 ·have:Nat.beq s x=false:=by rw[Bool.eq_false_iff];intro e;exact h (Nat.eq_of_beq_eq_true e).symm
  simp[get,this,h]
theorem e6{α:Type}(t:xA α)(s:Nat)(v:α)(x:Nat):get (put t s v) x=if x=s then some v else get t x:=by
 induction t with
 | nil=>
  simp only[put,get];by_cases h:x=s
  ·subst h;simp
  ·have:Nat.beq s x=false:=by rw[Bool.eq_false_iff];intro e;exact h (Nat.eq_of_beq_eq_true e).symm
   simp[this,h]
 | cons kv r ih=>
  obtain⟨k,u⟩:=kv;simp only[put]
  cases hk:Nat.beq k s with
  | true=>
   have:=Nat.eq_of_beq_eq_true hk;subst this;simp only[get];by_cases h:x=k
   ·subst h;simp
   ·have:Nat.beq k x=false:=by rw[Bool.eq_false_iff];intro e;exact h (Nat.eq_of_beq_eq_true e).symm
    simp[this,h]
  | false=>
   simp only[get]
   cases hx:Nat.beq k x with
   | true=>
    have:=Nat.eq_of_beq_eq_true hx;subst this;have:k≠s:=by rintro rfl;simp at hk
    simp[this]
   | false=>exact ih
theorem e5{α:Type}(t:xA α)(s:Nat)(x:Nat):get (cut t s) x=if x=s then none else get t x:=by
 induction t with
 | nil=>simp[cut,get]
 | cons kv r ih=>
  obtain⟨k,u⟩:=kv;simp only[cut]
  cases hk:Nat.beq k s with
  | true=>
   have:=Nat.eq_of_beq_eq_true hk;subst this;rw[ih];by_cases h:x=k
   ·simp[h]
   ·have:Nat.beq k x=false:=by rw[Bool.eq_false_iff];intro e;exact h (Nat.eq_of_beq_eq_true e).symm
    simp[h,get,this]
  | false=>
   simp only[get]
   cases hx:Nat.beq k x with
   | true=>
    have:=Nat.eq_of_beq_eq_true hx;subst this;have:k≠s:=by rintro rfl;simp at hk
    simp[this]
   | false=>exact ih
theorem bY{α β:Type}(f:α->β)(t:xA α)(x:Nat):get (dv f t) x=(get t x).map f:=by
 induction t with
 | nil=>rfl
 | cons kv r ih=>
  obtain⟨k,u⟩:=kv;simp only[dv,get]
  cases hx:Nat.beq k x with
  | true=>rfl
  | false=>exact ih
theorem bt.length{F:Nat->Nat}{w:World}:∀ {cs:List D} {l:List Value},bt F w cs l->l.length=cs.length
 | [],_,h=>by simp[show _ = [] from h]
 | _::_,_,h=>by
  obtain⟨x,l',rfl,_,hl⟩:=h;simp[bt.length hl]
theorem aq.length{yv:Option Nat}{L:Loc}{F:Nat->Nat}{w:World}:∀ {cs:List V} {l:List Value},aq yv L F w cs l->l.length=cs.length
 | [],_,h=>by simp[show _ = [] from h]
 | _::_,_,h=>by
  obtain⟨x,l',rfl,_,hl⟩:=h;simp[aq.length hl]
section
variable {yv : Option Nat} {L : Loc} {F : Nat -> Nat} {w : World}
theorem aq.inj:∀ {cs:List D} {l:List Value},aq yv L F w (inj cs) l↔bt F w cs l
 | [],l=>by simp[PX.inj,aq,bt]
 | c::r,l=>by
  simp only[PX.inj,aq,bt];constructor
  ·rintro ⟨x,l',rfl,hc,hl⟩;exact⟨x,l',rfl,hc,aq.inj.1 hl⟩
  ·rintro ⟨x,l',rfl,hc,hl⟩;exact⟨x,l',rfl,hc,aq.inj.2 hl⟩
theorem aq.get:∀ {cs:List V} {l:List Value} (i:Nat) {c:V},aq yv L F w cs l->cs[i]?=some c -> ∃ x,l[i]?=some x/\br yv L F w c x
 | [],_,i,c,_,hi=>by simp at hi
 | d::r,_,0,c,h,hi=>by
  obtain⟨x,l',rfl,hc,hl⟩:=h;simp at hi;subst hi;exact⟨x,by simp,hc⟩
 | d::r,_,i+1,c,h,hi=>by
  obtain⟨x,l',rfl,hc,hl⟩:=h;simpa using aq.get i hl (by simpa using hi)
theorem aq.lq:∀ {cs:List V} {l:List Value},l.length=cs.length->(∀ (i:Nat) (c:V),cs[i]?=some c -> ∃ x,l[i]?=some x/\br yv L F w c x)->aq yv L F w cs l
 | [],l,hl,_=>(List.length_eq_zero_iff.1 (by simpa using hl):l = [])
 | c::r,[],hl,_=>by simp at hl
 | c::r,x::l,hl,h=>by
  refine⟨x,l,rfl,?_,aq.lq (by simpa using hl) fun i d hd=>by simpa using h (i+1) d (by simpa using hd)⟩;obtain⟨y,hy,hr⟩:=h 0 c (by simp);simp at hy;exact hy▸hr
theorem aq.append:∀ {cs ds:List V} {l k:List Value},aq yv L F w cs l->aq yv L F w ds k->aq yv L F w (cs++ds) (l++k)
 | [],_,_,_,h,k=>by simpa[show _ = [] from h]using k
 | c::r,ds,_,m,h,k=>by
  obtain⟨x,l',rfl,hc,hl⟩:=h;exact⟨x,l'++m,by simp,hc,aq.append hl k⟩
theorem aq.take{cs:List V}{l:List Value}(n:Nat)(h:aq yv L F w cs l):aq yv L F w (cs.take n) (l.take n):=
 .lq (by simp[h.length]) fun i c hc=>by
  rw[List.getElem?_take]at hc ⊢;split at hc
  ·rename_i hi;simp only[hi,if_true];exact h.get i hc
  ·simp at hc
theorem aq.drop{cs:List V}{l:List Value}(n:Nat)(h:aq yv L F w cs l):aq yv L F w (cs.drop n) (l.drop n):=
 .lq (by simp[h.length]) fun i c hc=>by
  rw[List.getElem?_drop]at hc ⊢;exact h.get _ hc
theorem zr(l:List D)(n:Nat):inj (l.take n)=(inj l).take n:=by
 induction l generalizing n with
 | nil=>simp[inj]
 | cons c r ih=>cases n<;>simp[inj,ih]
theorem zq(l:List D)(n:Nat):inj (l.drop n)=(inj l).drop n:=by
 induction l generalizing n with
 | nil=>simp[inj]
 | cons c r ih=>cases n<;>simp[inj,ih]
theorem ji(l m:List D):inj (l++m)=inj l++inj m:=by
 induction l with
 | nil=>rfl
 | cons c r ih=>simp[inj,ih]
theorem eR(l:List D):(inj l).length=l.length:=by
 induction l with
 | nil=>rfl
 | cons c r ih=>simp[inj,ih]
theorem xY(l:List D)(i:Nat):(inj l)[i]?=(l[i]?).map .d:=by
 induction l generalizing i with
 | nil=>simp[inj]
 | cons c r ih=>cases i<;>simp[inj,ih]
theorem cc(l:List (List D)):bg l=l.map inj:=by
 induction l with
 | nil=>rfl
 | cons c r ih=>simp[bg,ih]
mutual
def iQ:V->Nat->Prop
 | .agg cs,i=>cm cs i
 | .tup cs,i=>cm cs i
 | .clo _ cs,i=>cm cs i
 | .ptr j _,i=>j=i
 | .ep j _ _ _,i=>j=i
 | .sl j _ _ _,i=>j=i
 | .mp j,i=>j=i
 | .it j,i=>j=i
 | _,_=>False
def cm:List V->Nat->Prop
 | [],_=>False
 | v::r,i=>iQ v i\/cm r i
end
end
mutual
theorem br.mono{yv:Option Nat}{L L':Loc}{F F':Nat->Nat}{w w':World}(h:Tr F w F' w'):∀ (v:V) (x:Value),(∀ i,iQ v i->L'.ρ i=L.ρ i/\L'.κ i=L.κ i)->br yv L F w v x->br yv L' F' w' v x
 | .d v,_,_,hr=>bR.mono h v _ hr
 | .agg cs,_,hn,hr=>by
  obtain⟨l,rfl,hl⟩:=hr;exact⟨l,rfl,aq.mono h cs _ hn hl⟩
 | .tup cs,_,hn,hr=>by
  obtain⟨l,rfl,hl⟩:=hr;exact⟨l,rfl,aq.mono h cs _ hn hl⟩
 | .ptr id off,x,hn,hr=>by
  have hr:x = .pointer (some ⟨L.ρ id,off,none⟩):=hr;show x = .pointer (some ⟨L'.ρ id,off,none⟩);rw[(hn id rfl).1];exact hr
 | .ep id sz i off,x,hn,hr=>by
  have hr:x = .pointer (some ⟨L.ρ id,i*sz+off,none⟩):=hr;show x = .pointer (some ⟨L'.ρ id,i*sz+off,none⟩);rw[(hn id rfl).1];exact hr
 | .sl id sz off len,_,hn,hr=>by
  obtain⟨a,cap,rfl,hl,hs,hc⟩:=hr;refine⟨a,cap,rfl,hl,hs,?_⟩;rw[(hn id rfl).1,(hn id rfl).2];exact hc
 | .mp id,x,hn,hr=>by
  have hr:x = .map (some (L.ρ id)):=hr;show x = .map (some (L'.ρ id));rw[(hn id rfl).1];exact hr
 | .it id,x,hn,hr=>by
  have hr:x = .pointer (some ⟨L.ρ id,0,none⟩):=hr;show x = .pointer (some ⟨L'.ρ id,0,none⟩);rw[(hn id rfl).1];exact hr
 | .clo f cs,_,hn,hr=>by
  obtain⟨l,rfl,hl⟩:=hr;exact⟨l,rfl,aq.mono h cs _ hn hl⟩
 | .yld,_,_,hr=>hr
 | .unk,_,_,hr=>hr
theorem aq.mono{yv:Option Nat}{L L':Loc}{F F':Nat->Nat}{w w':World}(h:Tr F w F' w'):∀ (vs:List V) (l:List Value),(∀ i,cm vs i->L'.ρ i=L.ρ i/\L'.κ i=L.κ i)->aq yv L F w vs l->aq yv L' F' w' vs l
 | [],_,_,hr=>hr
 | v::r,_,hn,hr=>by
  obtain⟨x,l',rfl,hv,hl⟩:=hr;exact⟨x,l',rfl,br.mono h v x (fun i hi=>hn i (.inl hi)) hv,aq.mono h r l' (fun i hi=>hn i (.inr hi)) hl⟩
end
mutual
theorem br.kill{yv:Option Nat}{L:Loc}{F:Nat->Nat}{w:World}(id:Nat):∀ (v:V) (x:Value),br yv L F w v x->br yv L F w (aJ (bp id) v) x
 | .d v,_,hr=>hr
 | .agg cs,_,hr=>by
  obtain⟨l,rfl,hl⟩:=hr;exact⟨l,rfl,aq.kill id cs _ hl⟩
 | .tup cs,_,hr=>by
  obtain⟨l,rfl,hl⟩:=hr;exact⟨l,rfl,aq.kill id cs _ hl⟩
 | .ptr i off,x,hr=>by
  have J8:x = .pointer (some ⟨L.ρ i,off,none⟩):=hr;simp only[aJ,bp,nZ];cases Nat.beq i id
  ·exact hr
  ·subst J8;exact rfl
 | .ep i sz j off,x,hr=>by
  have J8:x = .pointer (some ⟨L.ρ i,j*sz+off,none⟩):=hr;simp only[aJ,bp,nZ];cases Nat.beq i id
  ·exact hr
  ·subst J8;exact rfl
 | .sl i sz off len,x,hr=>by
  simp only[aJ,bp,nZ];cases Nat.beq i id
  ·exact hr
  ·obtain⟨a,cap,rfl,_⟩:=hr;exact rfl
 | .mp i,x,hr=>by
  have J8:x = .map (some (L.ρ i)):=hr;simp only[aJ,bp,nZ];cases Nat.beq i id
  ·exact hr
  ·subst J8;exact rfl
 | .it i,x,hr=>by
  have J8:x = .pointer (some ⟨L.ρ i,0,none⟩):=hr;simp only[aJ,bp,nZ];cases Nat.beq i id
  ·exact hr
  ·subst J8;exact rfl
 | .clo f cs,_,hr=>by
  obtain⟨l,rfl,hl⟩:=hr;exact⟨l,rfl,aq.kill id cs _ hl⟩
 | .yld,_,hr=>hr
 | .unk,_,hr=>hr
theorem aq.kill{yv:Option Nat}{L:Loc}{F:Nat->Nat}{w:World}(id:Nat):∀ (vs:List V) (l:List Value),aq yv L F w vs l->aq yv L F w (dz (bp id) vs) l
 | [],_,hr=>hr
 | v::r,_,hr=>by
  obtain⟨x,l',rfl,hv,hl⟩:=hr;exact⟨x,l',rfl,br.kill id v x hv,aq.kill id r l' hl⟩
end
mutual
theorem mX(id:Nat):∀ (v:V),¬ iQ (aJ (bp id) v) id
 | .d _=>fun h=>h
 | .agg cs=>im id cs
 | .tup cs=>im id cs
 | .clo _ cs=>im id cs
 | .ptr i off=>by
  simp only[aJ,bp,nZ];cases h:Nat.beq i id
  ·intro hn;have:i=id:=hn;subst this;simp at h
  ·exact fun h=>h
 | .ep i sz j off=>by
  simp only[aJ,bp,nZ];cases h:Nat.beq i id
  ·intro hn;have:i=id:=hn;subst this;simp at h
  ·exact fun h=>h
 | .sl i sz off len=>by
  simp only[aJ,bp,nZ];cases h:Nat.beq i id
  ·intro hn;have:i=id:=hn;subst this;simp at h
  ·exact fun h=>h
 | .mp i=>by
  simp only[aJ,bp,nZ];cases h:Nat.beq i id
  ·intro hn;have:i=id:=hn;subst this;simp at h
  ·exact fun h=>h
 | .it i=>by
  simp only[aJ,bp,nZ];cases h:Nat.beq i id
  ·intro hn;have:i=id:=hn;subst this;simp at h
  ·exact fun h=>h
 | .yld=>fun h=>h
 | .unk=>fun h=>h
theorem im(id:Nat):∀ (vs:List V),¬ cm (dz (bp id) vs) id
 | []=>fun h=>h
 | v::r=>fun h=>h.elim (mX id v) (im id r)
end
def mW:Obj->Nat->Prop
 | .box c,i=>cm c.bJ i
 | .arr _ es,i=>cm es.bJ.flatten i
 | .mit v _ _ _,i=>iQ v i
 | .tb _ l,i=>cm l i
 | _,_=>False
theorem A7(f:V->V)(a b:List V):dz f (a++b)=dz f a++dz f b:=by
 induction a with
 | nil=>rfl
 | cons x r ih=>simp[dz,ih]
theorem gF(f:V->V)(a:List (List V)):(aX f a).flatten=dz f a.flatten:=by
 induction a with
 | nil=>rfl
 | cons x r ih=>simp[aX,A7,ih]
theorem kF(f:V->V)(a:List V):(dz f a).length=a.length:=by
 induction a with
 | nil=>rfl
 | cons x r ih=>simp[dz,ih]
theorem ik(f:V->V)(a:List (List V)):(aX f a).length=a.length:=by
 induction a with
 | nil=>rfl
 | cons x r ih=>simp[aX,ih]
theorem xc(f:V->V)(a:List (List V))(e:List V)(h:e∈aX f a):∃ e0∈a,e=dz f e0:=by
 induction a with
 | nil=>cases h
 | cons x r ih=>
  simp only[aX,List.mem_cons]at h;rcases h with rfl|h
  ·exact⟨x,by simp,rfl⟩
  ·obtain⟨e0,h0,rfl⟩:=ih h;exact⟨e0,by simp[h0],rfl⟩
theorem zJ(f:V->V)(l:List D):dz f (inj l)=inj l:=by
 induction l with
 | nil=>rfl
 | cons x r ih=>simp[inj,dz,aJ,ih]
theorem fL(l:List D)(i:Nat):¬ cm (inj l) i:=by
 induction l with
 | nil=>exact fun h=>h
 | cons x r ih=>exact fun h=>h.elim (fun h=>h) ih
theorem re(a b:List V)(i:Nat):cm (a++b) i↔cm a i\/cm b i:=by
 induction a with
 | nil=>simp[cm]
 | cons x r ih=>simp[cm,ih,or_assoc]
theorem bU.kill{yv:Option Nat}{L:Loc}{F:Nat->Nat}{w:World}(k id:Nat)(o:Obj)(h:bU yv L F w id o):bU yv L F w id (Obj.aJ (bp k) o):=by
 cases o with
 | box c=>
  cases c with
  | dd l=>exact h
  | vv l=>
   obtain⟨c,T,hc,hr⟩:=h;exact⟨c,T,hc,aq.kill k _ _ hr⟩
 | arr sz es=>
  cases es with
  | dd l=>exact h
  | vv l=>
   obtain⟨hs,hl,h⟩:=h;refine⟨hs,?_,?_⟩
   ·intro e he
    obtain⟨e0,h0,rfl⟩:=xc _ _ _ he;rw[kF];exact hl e0 h0
   ·rcases h with⟨h,hk⟩|⟨c,T,hc,hk,hn,hr⟩
    ·left
     have h:l = []:=h;subst h;exact⟨rfl,hk⟩
    ·right
     refine⟨c,T,hc,hk,?_,?_⟩
     ·show(aX _ l).length*sz<=_
      rw[ik];exact hn
     ·show aq yv L F w (aX _ l).flatten (c.toList.take ((aX _ l).length*sz))
      rw[ik,gF];exact aq.kill k _ _ hr
 | map cY=>exact h
 | iter s n=>exact h
 | buf t s=>exact h
 | tb t l=>
  obtain⟨c,hc,hr⟩:=h;exact⟨c,hc,aq.kill k _ _ hr⟩
 | mit v n l u=>
  obtain⟨r,seen,h1,h2⟩:=h;exact⟨r,seen,br.kill k v _ h1,h2⟩
theorem q9(k:Nat)(o:Obj):¬ mW (Obj.aJ (bp k) o) k:=by
 cases o with
 | box c=>
  cases c with
  | dd l=>exact fL l k
  | vv l=>exact im k l
 | arr sz es=>
  cases es with
  | dd l=>
   show ¬ cm (bg l).flatten k
   induction l with
   | nil=>exact fun h=>h
   | cons x r ih=>
    simp only[bg,List.flatten_cons,re];exact fun h=>h.elim (fL x k) ih
  | vv l=>
   show ¬ cm (aX _ l).flatten k;rw[gF];exact im k _
 | map cY=>exact fun h=>h
 | iter s n=>exact fun h=>h
 | buf t s=>exact fun h=>h
 | tb t l=>exact im k l
 | mit v n l u=>exact mX k v
theorem fh(L:Loc)(k id:Nat)(o:Obj):aS L id (Obj.aJ (bp k) o)↔aS L id o:=by
 cases o with
 | box c=>cases c<;>exact Iff.rfl
 | arr sz es=>cases es<;>exact Iff.rfl
 | map cY=>exact Iff.rfl
 | iter s n=>exact Iff.rfl
 | buf t s=>exact Iff.rfl
 | tb t l=>exact Iff.rfl
 | mit v n l u=>exact Iff.rfl
theorem bU.mono{yv:Option Nat}{L L':Loc}{F F':Nat->Nat}{w w':World}(h:Tr F w F' w')(id:Nat)(o:Obj)(hn:∀ i,mW o i->L'.ρ i=L.ρ i/\L'.κ i=L.κ i)
  (hL:L'.ρ id=L.ρ id/\L'.κ id=L.κ id) (hb:aS L id o->w'.heap[L.ρ id]?=w.heap[L.ρ id]?) (hr:bU yv L F w id o):bU yv L' F' w' id o:=by
 cases o with
 | box c=>
  obtain⟨c',T,hc,hr⟩:=hr;exact⟨c',T,by rw[hL.1,hb trivial];exact hc,aq.mono h _ _ hn hr⟩
 | arr sz es=>
  obtain⟨hs,hl,hr⟩:=hr;refine⟨hs,hl,?_⟩;rcases hr with⟨he,hk⟩|⟨c,T,hc,hk,J3,hr⟩
  ·exact .inl ⟨he,by rw[hL.2];exact hk⟩
  ·by_cases hz:L.κ id=0
   ·left
    refine⟨?_,by rw[hL.2];exact hz⟩;rw[hk,hz]at J3;have:es.bJ.length=0:=by
     rcases Nat.eq_zero_or_pos es.bJ.length with h0|h0
     ·exact h0
     ·have:=Nat.mul_pos h0 hs;omega
    exact List.length_eq_zero_iff.1 this
   ·right
    exact⟨c,T,by rw[hL.1,hb hz];exact hc,by rw[hL.2];exact hk,J3,aq.mono h _ _ hn hr⟩
 | map cY=>
  obtain⟨en,c,hc,hr⟩:=hr;exact⟨en,c,by rw[hL.1,hb trivial];exact hc,cf.mono h _ _ hr.1,hr.2⟩
 | iter s n=>
  show w'.heap[L'.ρ id]?=_;rw[hL.1,hb trivial];exact hr
 | buf t s=>
  obtain⟨c,h1,h2,h3⟩:=hr;exact⟨c,by rw[hL.1,hb trivial];exact h1,by rw[hL.2];exact h2,h3⟩
 | tb t l=>
  obtain⟨c,hc,hr⟩:=hr;exact⟨c,by rw[hL.1,hb trivial];exact hc,aq.mono h _ _ hn hr⟩
 | mit v n l u=>
  obtain⟨r,seen,h1,h2,h3⟩:=hr;exact⟨r,seen,br.mono h v _ hn h1,by rw[hL.1,hb trivial];exact h2,h3⟩
theorem bP{w:World}{b:Nat}{o:Go.Obj}(h:w.heap[b]?=some o):b<w.heap.size:=(Array.getElem?_eq_some_iff.1 h).1
theorem kj{w w':World}{b o:Nat}(h:w'.heap[b]?=w.heap[b]?):w'.cell? ⟨b,o,none⟩=w.cell? ⟨b,o,none⟩:=by
 simp[World.cell?,h]
theorem bU.lt{yv:Option Nat}{L:Loc}{F:Nat->Nat}{w:World}{id:Nat}{o:Obj}(h:bU yv L F w id o)(hb:aS L id o):L.ρ id<w.heap.size:=by
 cases o with
 | box c=>obtain⟨c',T,hc,_⟩:=h;exact bP hc
 | arr sz es=>
  obtain⟨_,_,h⟩:=h;rcases h with⟨_,hk⟩|⟨c,T,hc,_⟩
  ·exact absurd hk hb
  ·exact bP hc
 | map cY=>obtain⟨en,c,hc,_⟩:=h;exact bP hc
 | iter s n=>exact bP (show w.heap[L.ρ id]?=_ from h)
 | buf t s=>obtain⟨c,h1,_⟩:=h;exact bP h1
 | tb t l=>obtain⟨c,h1,_⟩:=h;exact bP h1
 | mit v n l u=>obtain⟨r,seen,_,h2,_⟩:=h;exact bP h2
theorem Tr.jc{F F':Nat->Nat}{w w':World}(ho:w'.os=w.os)(ht:w'.tape=w.tape)(hu:w'.output=w.output)(hs:w.heap.size<=w'.heap.size)(hle:∀ b,F b<=F' b)
    (zb:∀ b,w.heap.size<=b->F b=0) (hk:∀ b,b<w.heap.size->0<F b->w'.heap[b]?=w.heap[b]?):Tr F w F' w':=
  ⟨ho,ht,hu,hs,hle,
   fun b o h=>by
    rcases Nat.lt_or_ge b w.heap.size with hb|hb
    · exact kj (hk b hb (by omega))
    · rw[zb b hb]at h;omega,
   fun b e c h hm=>by rw[hk b (bP hm) h];exact hm⟩
theorem Tr.alloc{F:Nat->Nat}{w:World}(zb:∀ b,w.heap.size<=b->F b=0)(o:Go.Obj):Tr F w F (w.alloc o):=
 .jc rfl rfl rfl (by simp) (fun _=>Nat.le_refl _) zb fun b hb _=>heap_alloc_old _ _ _ hb
theorem Tr.drew{F:Nat->Nat}{w:World}(n:Nat):Tr F w F { w with drawn:=n }:=
 ⟨rfl,rfl,rfl,Nat.le_refl _,fun _=>Nat.le_refl _,fun _ _ _=>rfl,fun _ _ _ _ h=>h⟩
section
variable {σ : Type} {cx : Cx σ} {r : Option Nat} {m : List Nat} {L : Loc} {F : Nat -> Nat} {st : St σ} {a : Act} {w : World}
theorem a7.same{h:Heap}{s:σ}(hh:a7 cx L F h s w){w':World}(he:w'.heap=w.heap)(ho:w'.os=w.os)(ht:w'.tape=w.tape)(hu:w'.output=w.output):a7 cx L F h s w':=by
 have tr:Tr F w F w':=⟨ho,ht,hu,by rw[he];exact Nat.le_refl _,fun _=>Nat.le_refl _,fun b o _=>kj (by rw[he]),fun b e c _ hm=>by rw[he];exact hm⟩;refine⟨cx.gE hh.hg (.jc ho ht hu (by rw[he];exact Nat.le_refl _) (fun _=>Nat.le_refl _) hh.fresh fun b _ _=>by rw[he]) (fun b hb=>hh.fresh b (by rw[<- he];exact hb)) fun b _=>⟨by rw[he],rfl⟩,fun b hb=>by rw[he];exact hh.hP b hb,fun b hb=>hh.fresh b (by rw[<- he];exact hb),?_,hh.own,hh.inj⟩;intro id o hg;exact bU.mono tr id o (fun _ _=>⟨rfl,rfl⟩) ⟨rfl,rfl⟩ (fun _=>by rw[he]) (hh.obj id o hg)
theorem Good.same(hh:Good cx r m L F st a w){w':World}(he:w'.heap=w.heap)(ho:w'.os=w.os)(ht:w'.tape=w.tape)(hu:w'.output=w.output):Good cx r m L F st a w':=by
 have tr:Tr F w F w':=⟨ho,ht,hu,by rw[he];exact Nat.le_refl _,fun _=>Nat.le_refl _,fun b o _=>kj (by rw[he]),fun b e c _ hm=>by rw[he];exact hm⟩;refine⟨hh.heap.same he ho ht hu,?_,hh.tZ,fun b hb=>by rw[he];exact hh.pB b hb,hh.xe,fun l hl=>by rw[he];exact hh.lk l hl,hh.jF,hh.ve⟩;intro s v hs;obtain⟨x,hx,hr⟩:=hh.env s v hs;exact⟨x,hx,br.mono tr v x (fun _ _=>⟨rfl,rfl⟩) hr⟩
theorem Good.fN(hh:Good cx r m L F st a w){d:Nat}(hd:d<a.tmps.size):¬ pinned d:=fun h=>by
 have:=hh.ve;unfold pinned at h;omega
theorem Good.set(hh:Good cx r m L F st a w){d:Nat}{v:V}{x:Value}(hd:d<a.tmps.size)(hv:br cx.yv L F w v x) :
  Good cx r m L F ⟨put st.env d v,st.heap,st.s⟩ (a.put (some d) x) w:=by
 refine⟨hh.heap,?_,hh.tZ,hh.pB,hh.xe,hh.lk,hh.jF,by simpa[Act.put]using hh.ve⟩;intro s u hs;simp only[e6]at hs;simp only[Act.put];split at hs
 ·rename_i e
  cases hs;subst e
  exact⟨x,by simp[Array.getElem?_setIfInBounds,hd],hv⟩
 ·rename_i e
  obtain⟨y,hy,hr⟩:=hh.env s u hs;exact⟨y,by rw[Array.getElem?_setIfInBounds_ne (Ne.symm e)];exact hy,hr⟩
theorem Good.bw(hh:Good cx r m L F st a w){d:Option Nat}{v:V}{x:Value}(hd:∀ k,d=some k->k<a.tmps.size)(hv:br cx.yv L F w v x) :
  Good cx r m L F (aL st (bw d v)) (a.put d x) w:=by
 cases d with
 | none=>exact hh
 | some d=>exact hh.set (hd d rfl) hv
theorem Good.sub(hh:Good cx r m L F st a w){e:Env}{h:Heap}(he:dR e st.env)(hs:dR h st.heap):Good cx r m L F ⟨e,h,st.s⟩ a w:=
 ⟨⟨hh.heap.hg,hh.heap.hP,hh.heap.fresh,fun id o hg=>hh.heap.obj id o (hs id o hg),fun id o hg=>hh.heap.own id o (hs id o hg),
  fun i j o p hi hj=>hh.heap.inj i j o p (hs i o hi) (hs j p hj)⟩,fun s v hg=>hh.env s v (he s v hg),hh.tZ,hh.pB,hh.xe,hh.lk,hh.jF,hh.ve⟩
theorem Good.new(hh:Good cx r m L F st a w)(id n:Nat)(o:Obj)(b:Go.Obj)(hid:¬ pinned id)
  (ho:bU cx.yv ⟨fun i=>if i=id then w.heap.size else L.ρ i,fun i=>if i=id then n else L.κ i⟩ F (w.alloc b) id o) :
  Good cx r m ⟨fun i=>if i=id then w.heap.size else L.ρ i,fun i=>if i=id then n else L.κ i⟩ F (bV st (.new id o)) a (w.alloc b):=by
 have tr:Tr F w F (w.alloc b):=Tr.alloc hh.heap.fresh b;have hC:∀ c,cx.C st.s c->(w.alloc b).heap[c]?=w.heap[c]?:=fun c hc=>heap_alloc_old _ _ _ (hh.heap.hP c hc);have hg:∀ i o',get (bV st (.new id o)).heap i=some o'->(i=id/\o'=o)\/(i≠id /\ ∃ o0,get st.heap i=some o0/\o'=Obj.aJ (bp id) o0):=by
  intro i o' hi;simp only[bV,fW,e6,bY,e5]at hi;split at hi
  ·rename_i e;left;exact⟨e,by cases hi;rfl⟩
  ·rename_i e
   right;refine⟨e,?_⟩
   cases h0:get st.heap i with
   | none=>simp[h0]at hi
   | some o0=>simp[h0]at hi;exact⟨o0,rfl,hi.symm⟩
 refine⟨⟨cx.gE hh.heap.hg tr (fun c hc=>hh.heap.fresh c (by simp at hc;omega)) fun c hc=>⟨hC c hc,rfl⟩,fun c hc=>?_,fun c hc=>hh.heap.fresh c (by simp at hc;omega),?_,?_,?_⟩,?_,hh.tZ,?_,hh.xe,?_,fun i hi=>?_,hh.ve⟩
 ·have:=hh.heap.hP c hc;simp;omega
 ·intro i o' hi
  rcases hg i o' hi with⟨rfl,rfl⟩|⟨er,o0,h0,rfl⟩
  ·exact ho
  ·refine bU.mono tr i _ (fun j hj=>?_) ⟨by simp[er],by simp[er]⟩ (fun hb=>heap_alloc_old _ _ _ ?_) (bU.kill id i o0 (hh.heap.obj i o0 h0))
   ·have:j≠id:=by rintro rfl;exact q9 j o0 hj
    simp[this]
   ·exact(hh.heap.obj i o0 h0).lt ((fh L id i o0).1 hb)
 ·intro i o' hi hb
  rcases hg i o' hi with⟨rfl,rfl⟩|⟨er,o0,h0,rfl⟩
  ·simp only[if_true]
   refine⟨hh.heap.fresh _ (Nat.le_refl _),fun hc=>?_⟩;have:=hh.heap.hP _ hc;omega
  ·simp only[er,if_false]
   have lO:aS L i o0:=by
    have:=(fh _ id i o0).1 hb;cases o0<;>simp_all[aS]
   exact hh.heap.own i o0 h0 lO
 ·intro i j o' p hi hj mf jt e
  have key:∀ i o',get (bV st (.new id o)).heap i=some o'->i≠id->aS ⟨fun i=>if i=id then w.heap.size else L.ρ i,fun i=>if i=id then n else L.κ i⟩ i o' -> ∃ o0,get st.heap i=some o0/\aS L i o0:=by
   intro i o' hi er hb;rcases hg i o' hi with⟨rfl,rfl⟩|⟨_,o0,h0,rfl⟩
   ·exact absurd rfl er
   ·refine⟨o0,h0,?_⟩
    have:=(fh _ id i o0).1 hb;cases o0<;>simp_all[aS]
  by_cases nX:i=id<;>by_cases J1:j=id
  ·rw[nX,J1]
  ·exfalso
   obtain⟨p0,E2,JX⟩:=key j p hj J1 jt;have:=(hh.heap.obj j p0 E2).lt JX;simp[nX,J1]at e;omega
  ·exfalso
   obtain⟨p0,E2,JX⟩:=key i o' hi nX mf;have:=(hh.heap.obj i p0 E2).lt JX;simp[nX,J1]at e;omega
  ·obtain⟨o0,ho0,kC⟩:=key i o' hi nX mf
   obtain⟨p0,E2,JX⟩:=key j p hj J1 jt;simp only[nX,J1,if_false]at e;exact hh.heap.inj i j o0 p0 ho0 E2 kC JX e
 ·intro s v hs
  simp only[bV,bY]at hs
  cases h0:get st.env s with
  | none=>simp[h0]at hs
  | some v0=>
   simp[h0]at hs;subst hs;obtain⟨x,hx,hr⟩:=hh.env s v0 h0;refine⟨x,hx,br.mono tr _ x (fun j hj=>?_) (br.kill id v0 x hr)⟩;have:j≠id:=by rintro rfl;exact mX j v0 hj
   simp[this]
 ·intro b' lO
  exact⟨by rw[heap_alloc_old _ _ _ (bP (hh.pB b' lO).1)];exact(hh.pB b' lO).1,(hh.pB b' lO).2⟩
 ·intro l hl
  obtain⟨lp,Gw⟩:=hh.lk l hl;exact⟨lp,⟨by rw[heap_alloc_old _ _ _ (bP Gw.1.1)];exact Gw.1.1,Gw.1.2⟩,Gw.2⟩
 ·have:i≠id:=by rintro rfl;exact hid hi
  simp only[this,if_false];exact hh.jF i hi
theorem Good.jU(hh:Good cx r m L F st a w)(id sz:Nat)(hid:¬ pinned id)(hs:0<sz)(es:bx)(he:es.bJ = []) :
  Good cx r m ⟨L.ρ,fun i=>if i=id then 0 else L.κ i⟩ F (bV st (.new id (.arr sz es))) a w:=by
 have tr:Tr F w F w:=Tr.refl F w;have hg:∀ i o',get (bV st (.new id (.arr sz es))).heap i=some o'->(i=id/\o' = .arr sz es)\/(i≠id /\ ∃ o0,get st.heap i=some o0/\o'=Obj.aJ (bp id) o0):=by
  intro i o' hi;simp only[bV,fW,e6,bY,e5]at hi;split at hi
  ·rename_i e;left;exact⟨e,by cases hi;rfl⟩
  ·rename_i e
   right;refine⟨e,?_⟩
   cases h0:get st.heap i with
   | none=>simp[h0]at hi
   | some o0=>simp[h0]at hi;exact⟨o0,rfl,hi.symm⟩
 have key:∀ i o',get (bV st (.new id (.arr sz es))).heap i=some o'->aS ⟨L.ρ,fun i=>if i=id then 0 else L.κ i⟩ i o'->i≠id /\ ∃ o0,get st.heap i=some o0/\aS L i o0:=by
  intro i o' hi hb;rcases hg i o' hi with⟨rfl,rfl⟩|⟨er,o0,h0,rfl⟩
  ·simp[aS]at hb
  ·refine⟨er,o0,h0,?_⟩
   have:=(fh _ id i o0).1 hb;cases o0<;>simp_all[aS]
 refine⟨⟨hh.heap.hg,hh.heap.hP,hh.heap.fresh,?_,?_,?_⟩,?_,hh.tZ,hh.pB,hh.xe,hh.lk,fun i hi=>⟨(hh.jF i hi).1,by
  have:i≠id:=by rintro rfl;exact hid hi
  simp only[this,if_false];exact(hh.jF i hi).2⟩,hh.ve⟩
 ·intro i o' hi
  rcases hg i o' hi with⟨rfl,rfl⟩|⟨er,o0,h0,rfl⟩
  ·exact⟨hs,(by intro e h;rw[he]at h;cases h),.inl ⟨he,(by simp)⟩⟩
  ·refine bU.mono (L:=L) tr i _ (fun j hj=>?_) ⟨rfl,by simp[er]⟩ (fun _=>rfl) (bU.kill id i o0 (hh.heap.obj i o0 h0))
   have:j≠id:=by rintro rfl;exact q9 j o0 hj
   simp[this]
 ·intro i o' hi hb
  obtain⟨_,o0,h0,kC⟩:=key i o' hi hb;exact hh.heap.own i o0 h0 kC
 ·intro i j o' p hi hj mf jt e
  obtain⟨_,o0,ho0,kC⟩:=key i o' hi mf;obtain⟨_,p0,E2,JX⟩:=key j p hj jt;exact hh.heap.inj i j o0 p0 ho0 E2 kC JX e
 ·intro s v hs
  simp only[bV,bY]at hs
  cases h0:get st.env s with
  | none=>simp[h0]at hs
  | some v0=>
   simp[h0]at hs;subst hs;obtain⟨x,hx,hr⟩:=hh.env s v0 h0;refine⟨x,hx,br.mono tr _ x (fun j hj=>?_) (br.kill id v0 x hr)⟩;have:j≠id:=by rintro rfl;exact mX j v0 hj
   simp[this]
theorem Good.del(hh:Good cx r m L F st a w)(id:Nat):Good cx r m L F (bV st (.del id)) a w:=
 hh.sub (fun _ _ h=>h) fun i o h=>by
  simp only[bV,e5]at h;split at h
  ·cases h
  ·exact h
theorem Good.obj(hh:Good cx r m L F st a w){id:Nat}{o0 o:Obj}(h0:get st.heap id=some o0)(kC:aS L id o0){w':World}
  (Uu:w'.os=w.os) (ht:w'.tape=w.tape) (hu:w'.output=w.output) (dD:w'.heap.size=w.heap.size) (hk:∀ b,b≠L.ρ id->w'.heap[b]?=w.heap[b]?)
  (vj:∀ ds,w.heap[L.ρ id]?≠some (.deferred ds)) (pq:∀ lp,w.heap[L.ρ id]?≠some (.loop lp))
  (ho:bU cx.yv L F w' id o):Good cx r m L F (bV st (.obj id o)) a w'/\Tr F w F w':=by
 obtain⟨hF,Oy⟩:=hh.heap.own id o0 h0 kC;have tr:Tr F w F w':=.jc Uu ht hu (by omega) (fun _=>Nat.le_refl _) hh.heap.fresh fun b _ hF'=>hk b (by rintro rfl;omega);have hC:∀ c,cx.C st.s c->w'.heap[c]?=w.heap[c]?:=fun c hc=>hk c (by rintro rfl;exact Oy hc);have hg:∀ i o',get (bV st (.obj id o)).heap i=some o'->(i=id/\o'=o)\/(i≠id/\get st.heap i=some o'):=by
  intro i o' hi;simp only[bV,e6]at hi;split at hi
  ·rename_i e;left;exact⟨e,by cases hi;rfl⟩
  ·rename_i e;exact .inr ⟨e,hi⟩
 have iU:∀ i o',get (bV st (.obj id o)).heap i=some o'->aS L i o' -> ∃ o1,get st.heap i=some o1/\aS L i o1:=by
  intro i o' hi hb;rcases hg i o' hi with⟨rfl,rfl⟩|⟨_,h⟩
  ·exact⟨o0,h0,kC⟩
  ·exact⟨o',h,hb⟩
 refine⟨⟨⟨cx.gE hh.heap.hg tr (fun c hc=>hh.heap.fresh c (by omega)) fun c hc=>⟨hC c hc,rfl⟩,fun c hc=>by rw[dD];exact hh.heap.hP c hc,fun c hc=>hh.heap.fresh c (by omega),?_,?_,?_⟩,?_,hh.tZ,?_,hh.xe,?_,hh.jF,hh.ve⟩,tr⟩
 ·intro i o' hi
  rcases hg i o' hi with⟨rfl,rfl⟩|⟨er,h⟩
  ·exact ho
  ·refine bU.mono tr i o' (fun _ _=>⟨rfl,rfl⟩) ⟨rfl,rfl⟩ (fun hb=>hk _ fun e=>er (hh.heap.inj i id o' o0 h h0 hb kC e)) (hh.heap.obj i o' h)
 ·intro i o' hi hb
  obtain⟨o1,h1,nW⟩:=iU i o' hi hb;exact hh.heap.own i o1 h1 nW
 ·intro i j o' p hi hj mf jt e
  obtain⟨o1,h1,nW⟩:=iU i o' hi mf;obtain⟨o2,h2,nr⟩:=iU j p hj jt;exact hh.heap.inj i j o1 o2 h1 h2 nW nr e
 ·intro s v hs
  obtain⟨x,hx,hr⟩:=hh.env s v hs;exact⟨x,hx,br.mono tr v x (fun _ _=>⟨rfl,rfl⟩) hr⟩
 ·intro b hb
  have:=(hh.pB b hb).1;exact⟨by rw[hk b (by rintro rfl;exact vj _ this)];exact this,(hh.pB b hb).2⟩
 ·intro l hl
  obtain⟨lp,Gw⟩:=hh.lk l hl;exact⟨lp,⟨by rw[hk l (by rintro rfl;exact pq _ Gw.1.1)];exact Gw.1.1,Gw.1.2⟩,Gw.2⟩
end
end Go.PX
namespace Go.PX
open Go.RowKit
theorem nO{F:Nat->Nat}{w:World}{v:Value}{a:D}(h:mZ v=some a):bR F w a v:=by
 unfold mZ at h;split at h<;>cases h<;>rfl
theorem lb{F:Nat->Nat}{w:World}:∀ {l:List Value} {as:List D},jz l=some as->bt F w as l
 | [],as,h=>by simp[jz]at h;subst h;rfl
 | v::r,as,h=>by
  simp only[jz]at h;split at h
  ·rename_i a l' ha lH
   cases h;exact⟨v,r,rfl,nO ha,lb lH⟩
  ·cases h
theorem oU{F:Nat->Nat}{w:World}{v:Value}{a:D}(h:ofConst v=some a):bR F w a v:=by
 unfold ofConst at h;split at h
 ·rename_i cs
  cases hs:jz cs.toList with
  | none=>rw[hs]at h;cases h
  | some l=>rw[hs]at h;cases h;exact⟨cs,rfl,lb hs⟩
 ·rename_i cs
  split at h
  ·rename_i h0
   cases h;exact⟨cs,rfl,h0⟩
  ·cases h
 ·exact nO h
def kp(d:TypeDesc):Kd:=
 match d with
 | .bool=>.bool
 | .int k=>.int k
 | .string=>.str
 | .slice e=>.slice e
 | .struct fs => if fs.any (fun f => f.name == "_") then .other else .struct (fs.toList.map fun f => (f.offset, f.type))
 | .array n e=>.array n e
 | .map k e=>.map k e
 | .interface _=>.iface
 | _=>.other
def tR(d:TypeDesc):Bool:=
 match d with
 | .struct _=>true
 | .array _ _=>true
 | _=>false
def zeroCells(v:Value):Option (List D):=
 match ofConst v with
 | some (.agg l)=>some l
 | some (.tup _)=>none
 | some v=>some [v]
 | none=>none
def Jx(v:Value):Bool:=
 match ofConst v with
 | some (.agg _)=>true
 | _=>false
def bA(P:Program)(T:fA):Prop:=
 ∀ t ti,T.get t=some ti -> ∃ i d,P.info? t=some i/\P.underlying t=some d/\ti.size=i.size/\ti.bytes=i.bytes/\ti.kd=kp d/\ti.isAgg=tR d /\
  (ti.held=false->P.stoodInHeld t=false /\ ∀ k,ti.kd = .int k->i.comparable=true)/\(∀ z,ti.zero=some z -> ∃ zv,i.zero=some zv/\zeroCells zv=some z/\Jx zv=ti.isAgg)
theorem zu{d:TypeDesc}(h:kp d = .iface):∃ ms,d = .interface ms:=by
 unfold kp at h;split at h<;>first|exact⟨_,rfl⟩|(split at h<;>cases h)|cases h
theorem fR{d:TypeDesc}{e:TypeId}(h:kp d = .slice e):d = .slice e:=by
 unfold kp at h;split at h<;>first|(cases h;rfl)|(split at h<;>cases h)|cases h
theorem jQ{d:TypeDesc}(h:kp d = .str):d = .string:=by
 unfold kp at h;split at h<;>first|rfl|(split at h<;>cases h)|cases h
theorem oz{d:TypeDesc}{k:IntKind}(h:kp d = .int k):d = .int k:=by
 unfold kp at h;split at h<;>first|(cases h;rfl)|(split at h<;>cases h)|cases h
theorem rV{d:TypeDesc}(h:kp d = .bool):d = .bool:=by
 unfold kp at h;split at h<;>first|rfl|(split at h<;>cases h)|cases h
theorem gA{d:TypeDesc}{n:Nat}{e:TypeId}(h:kp d = .array n e):d = .array n e:=by
 unfold kp at h;split at h<;>first|(cases h;rfl)|(split at h<;>cases h)|cases h
theorem uE{d:TypeDesc}{k e:TypeId}(h:kp d = .map k e):d = .map k e:=by
 unfold kp at h;split at h<;>first|(cases h;rfl)|(split at h<;>cases h)|cases h
theorem jw{d:TypeDesc}{fs:List (Nat×TypeId)}(h:kp d = .struct fs) :
  ∃ fa : Array Field, d = .struct fa /\ fs = fa.toList.map (fun f => (f.offset, f.type)) /\ ∀ f ∈ fa.toList, (f.name == "_") = false := by
 unfold kp at h;split at h<;>first|cases h|skip
 rename_i fa;split at h
 ·cases h
 ·rename_i hn
  cases h;refine⟨fa,rfl,rfl,fun f hf=>?_⟩
  have J3 : fa.any (fun f => f.name == "_") = false := by simpa using hn
  rw[Array.any_eq_false']at J3;simpa using J3 f (by simpa using hf)
section
variable {P : Program} {T : fA} {w : World}
theorem mi(hT:bA P T){t:TypeId}{ti:sO}(h:T.get t=some ti):(isAgg t).run P w = .ok ti.isAgg w:=by
 obtain⟨i,d,hi,hd,dD,IP,e8,nV,WC,hz⟩:=hT t ti h;unfold isAgg;rw[nV];cases d<;>simp[run_underlying hd,tR]
theorem fz(hT:bA P T){t:TypeId}{ti:sO}(h:T.get t=some ti):(sizeOf t).run P w = .ok ti.size w:=by
 obtain⟨i,d,hi,hd,dD,IP,e8,nV,WC,hz⟩:=hT t ti h;simp[sizeOf,typeInfo,hi,dD]
end
theorem cr{b:Bool}{K:Prop}(h:gR b K):b=true/\K:=by
 cases b
 ·exact h.elim
 ·exact⟨rfl,h⟩
theorem tU{b:Bool}{X Y:Prop}(h:QK b X Y):(b=true/\X)\/(b=false/\Y):=by
 cases b
 ·exact .inr ⟨rfl,h⟩
 ·exact .inl ⟨rfl,h⟩
theorem oh{n m:Nat}(h:Nat.ble n m=true):n<=m:=Nat.le_of_ble_eq_true h
theorem eM{n m:Nat}(h:Nat.beq n m=true):n=m:=Nat.eq_of_beq_eq_true h
theorem zO{n m:Nat}(h:(!Nat.beq n m)=true):n≠m:=by
 intro e;subst e;simp at h
section
variable {σ : Type} {cx : Cx σ} {r : Option Nat} {m : List Nat} {L : Loc} {F : Nat -> Nat} {st : St σ} {a : Act} {w : World}
theorem aF{e e':Env}(hs:dR e e'){x:Operand}{v:V}(hx:aR e x=some v):aR e' x=some v:=by
 cases x with
 | tmp t=>exact hs t v hx
 | const c=>exact hx
 | func f=>exact hx
 | global g=>exact hx
theorem mg{e e':Env}(hs:dR e e'):∀ {l:List Operand} {vs:List V},et e l=some vs->et e' l=some vs
 | [],vs,h=>h
 | x::r,vs,h=>by
  simp only[et]at h ⊢
  cases hx:aR e x with
  | none=>simp[hx]at h
  | some v=>
   cases hr:et e r with
   | none=>simp[hx,hr]at h
   | some l=>simp[hx,hr]at h;simp[aF hs hx,mg hs hr,h]
theorem Good.aR(h:Good cx r m L F st a w){x:Operand}{v:V}(hx:PX.aR st.env x=some v):br cx.yv L F w v (a.eval x):=by
 cases x with
 | tmp t=>
  obtain⟨y,hy,hr⟩:=h.env t v hx;simpa[Act.eval,hy]using hr
 | const c=>
  simp only[PX.aR]at hx;split at hx
  ·rename_i v' hv;cases hx;exact oU hv
  ·cases hx
 | func f=>
  simp only[PX.aR,Option.some.injEq]at hx;subst hx;exact⟨#[],rfl,rfl⟩
 | global g=>simp[PX.aR]at hx
theorem Good.et(h:Good cx r m L F st a w):∀ {l:List Operand} {vs:List V},PX.et st.env l=some vs->aq cx.yv L F w vs (l.map a.eval)
 | [],vs,hx=>by simp[PX.et]at hx;subst hx;rfl
 | x::r,vs,hx=>by
  simp only[PX.et]at hx
  cases hv:PX.aR st.env x with
  | none=>simp[hv]at hx
  | some v=>
   cases hr:PX.et st.env r with
   | none=>simp[hv,hr]at hx
   | some l=>simp[hv,hr]at hx;subst hx;exact⟨_,_,rfl,h.aR hv,h.et hr⟩
end
theorem bM{P:Program}{e:Env}{h:Heap}{o:Oper}{v:V}
  (hr:∀ {σ:Type} (cx:Cx σ) (r:Option Nat) (m:List Nat) (L:Loc) (F:Nat->Nat) (st:St σ) (a:Act) (w:World),dR e st.env->dR h st.heap->Good cx r m L F st a w ->
   ∃ x,(execOp a.eval o).run P w = .ok (.value x) w/\br cx.yv L F w v x):Out P e h o (bw o.dst v):=by
 intro σ cx r m L F st a w he hh hg hd;obtain⟨x,hx,hv⟩:=hr cx r m L F st a w he hh hg;exact⟨x,w,_,hx,.inl rfl,L,F,hg.bw hd hv,Tr.refl F w⟩
section
variable {P : Program} {T : fA} {e : Env} {h : Heap} {dst : Option Nat} {K : List Wr -> Prop} {ty : TypeId} {pos : String} {after : Array Edge} {guard : Option (Nat × Bool)}
theorem NG{x:Operand}(hk:gW T e h dst (.move x) K):∃ ws,K ws/\Out P e h ⟨dst,.move x,ty,pos,after,guard⟩ ws:=by
 simp only[gW]at hk;split at hk
 ·rename_i v hv
  exact⟨_,hk,bM (o:=⟨dst,.move x,ty,pos,after,guard⟩) fun cx r m L F st a w he hh hg=>⟨_,by simp[execOp],hg.aR (aF he hv)⟩⟩
 ·exact hk.elim
theorem HC{x:Operand}(hk:gW T e h dst (.assign x) K):∃ ws,K ws/\Out P e h ⟨dst,.assign x,ty,pos,after,guard⟩ ws:=by
 simp only[gW]at hk;split at hk
 ·rename_i v hv
  exact⟨_,hk,bM (o:=⟨dst,.assign x,ty,pos,after,guard⟩) fun cx r m L F st a w he hh hg=>⟨_,by simp[execOp],hg.aR (aF he hv)⟩⟩
 ·exact hk.elim
theorem rO{σ:Type}{cx:Cx σ}{r:Option Nat}{m:List Nat}{L:Loc}{F:Nat->Nat}{st:St σ}{a:Act}{w:World}(hg:Good cx r m L F st a w){x:Operand}{b:Bool}
  (he:dR e st.env) (hx:aR e x=some (.d (.bool b))):a.eval x = .bool b:=hg.aR (aF he hx)
theorem jM{σ:Type}{cx:Cx σ}{r:Option Nat}{m:List Nat}{L:Loc}{F:Nat->Nat}{st:St σ}{a:Act}{w:World}(hg:Good cx r m L F st a w){x:Operand}{k:IntKind}{n:Int}
  (he:dR e st.env) (hx:aR e x=some (.d (.int k n))):a.eval x = .int k n:=hg.aR (aF he hx)
theorem mE{σ:Type}{cx:Cx σ}{r:Option Nat}{m:List Nat}{L:Loc}{F:Nat->Nat}{st:St σ}{a:Act}{w:World}(hg:Good cx r m L F st a w){x:Operand}{s:ByteArray}
  (he:dR e st.env) (hx:aR e x=some (.d (.str s))):a.eval x = .string s:=hg.aR (aF he hx)
theorem NI{c x y:Operand}(hk:gW T e h dst (.pick c x y) K):∃ ws,K ws/\Out P e h ⟨dst,.pick c x y,ty,pos,after,guard⟩ ws:=by
 simp only[gW]at hk;have key:∀ (t:Bool) (z:Operand) (v:V),aR e c=some (.d (.bool t))->z=(if t then x else y)->aR e z=some v->Out P e h ⟨dst,.pick c x y,ty,pos,after,guard⟩ (bw dst v):=by
  intro t z v hc hz hv;refine bM (o:=⟨dst,.pick c x y,ty,pos,after,guard⟩) fun cx r m L F st a w he hh hg=>⟨a.eval z,?_,hg.aR (aF he hv)⟩;have:=rO hg he hc;cases t<;>simp[execOp,this,asBool,hz]
 split at hk
 ·rename_i t va vb hc hx hy
  rcases tU hk with⟨rfl,hk⟩|⟨rfl,hk⟩
  ·exact⟨_,hk,key true x va hc rfl hx⟩
  ·exact⟨_,hk,key false y vb hc rfl hy⟩
 ·rename_i t va hc hx hy
  obtain⟨rfl,hk⟩:=cr hk;exact⟨_,hk,key true x va hc rfl hx⟩
 ·rename_i t vb hc hx hy
  obtain⟨hb,hk⟩:=cr hk;have hb:t=false:=by simpa using hb
  subst hb;exact⟨_,hk,key false y vb hc rfl hy⟩
 ·exact hk.elim
theorem Dv{x:Operand}(hk:gW T e h dst (.nilCheck x) K):∃ ws,K ws/\Out P e h ⟨dst,.nilCheck x,ty,pos,after,guard⟩ ws:=by
 simp only[gW]at hk;split at hk;case h_2=>exact hk.elim
 rename_i v hv;have key:(∀ (yv:Option Nat) (L:Loc) (F:Nat->Nat) (w:World) (y:Value),br yv L F w v y->(∃ p,y = .pointer (some p))\/(∃ f l,y = .func (.func f) #[] l) \/ ∃ t u,y = .iface t u) ->
   Out P e h ⟨dst,.nilCheck x,ty,pos,after,guard⟩ (bw dst v):=by
  intro hy;refine bM (o:=⟨dst,.nilCheck x,ty,pos,after,guard⟩) fun cx r m L F st a w he hh hg=>⟨a.eval x,?_,hg.aR (aF he hv)⟩;rcases hy _ _ _ _ _ (hg.aR (aF he hv)) with⟨p,hp⟩|⟨f,l,hp⟩|⟨t,u,hp⟩<;>simp[execOp,hp]
 split at hk
 ·exact⟨_,hk,key fun yv L F w y hy=>by obtain⟨b,off,rfl,_⟩:=hy;exact .inl ⟨_,rfl⟩⟩
 ·exact⟨_,hk,key fun yv L F w y hy=>.inl ⟨_,hy⟩⟩
 ·exact⟨_,hk,key fun yv L F w y hy=>.inl ⟨_,hy⟩⟩
 ·exact⟨_,hk,key fun yv L F w y hy=>by obtain⟨l,rfl,_⟩:=hy;exact .inr (.inl ⟨_,_,rfl⟩)⟩
 ·exact⟨_,hk,key fun yv L F w y hy=>by obtain⟨l,rfl,_⟩:=hy;exact .inr (.inl ⟨_,_,rfl⟩)⟩
 ·exact⟨_,hk,key fun yv L F w y hy=>by obtain⟨l,rfl,_⟩:=hy;exact .inr (.inr ⟨_,_,rfl⟩)⟩
 ·exact hk.elim
theorem oZ{k:IntKind}{n:Int}{K:V->Prop}(h:arith k n K):K (.d (.int k (k.wrap n))):=by cases h;assumption
theorem NJ{op:UnOp}{t:TypeId}{x:Operand}(hk:gW T e h dst (.unOp op t x) K):∃ ws,K ws/\Out P e h ⟨dst,.unOp op t x,ty,pos,after,guard⟩ ws:=by
 simp only[gW]at hk;split at hk
 ·rename_i b hv
  exact⟨_,hk,bM (v:=.d (.bool !b)) (o:=⟨dst,.unOp .not t x,ty,pos,after,guard⟩) fun cx r m L F st a w he hh hg=>⟨.bool !b,by simp[execOp,rO hg he hv,Op.unary],rfl⟩⟩
 ·rename_i k n hv
  exact⟨_,oZ hk,bM (v:=.d (.int k (k.wrap (0-n)))) (o:=⟨dst,.unOp .neg t x,ty,pos,after,guard⟩) fun cx r m L F st a w he hh hg=>⟨.int k (k.wrap (0-n)),by simp[execOp,jM hg he hv,Op.unary,Op.intArith],rfl⟩⟩
 ·exact hk.elim
theorem FB(hT:bA P T){s d:TypeId}{x:Operand}(hk:gW T e h dst (.convert s d x) K):∃ ws,K ws/\Out P e h ⟨dst,.convert s d x,ty,pos,after,guard⟩ ws:=by
 simp only[gW]at hk;split at hk;case h_2=>exact hk.elim
 rename_i si di v hs hd hv;obtain⟨i,dd,hi,C0,_,_,fx,_⟩:=hT s si hs;obtain⟨j,de,hj,ib,_,_,j8,_⟩:=hT d di hd;split at hk
 ·rename_i k1 k k2 n e1 e2
  rw[e1]at fx;rw[e2]at j8;have e1:=oz fx.symm;have e2:=oz j8.symm;subst e1 e2;exact⟨_,oZ hk,bM (v:=.d (.int k (k.wrap n))) (o:=⟨dst,.convert s d x,ty,pos,after,guard⟩) fun cx r m L F st a w he hh hg=>
   ⟨.int k (k.wrap n),by simp[execOp,jM hg he hv,convert,run_underlying C0,run_underlying ib,Conv.intToInt],rfl⟩⟩
 ·rename_i sv e1 e2
  rw[e1]at fx;rw[e2]at j8;have e1:=jQ fx.symm;have e2:=jQ j8.symm;subst e1 e2;exact⟨_,hk,bM (v:=.d (.str sv)) (o:=⟨dst,.convert s d x,ty,pos,after,guard⟩) fun cx r m L F st a w he hh hg=>
   ⟨.string sv,by simp[execOp,mE hg he hv,convert,run_underlying C0,run_underlying ib],rfl⟩⟩
 ·exact hk.elim
theorem o9{α:Type}{cs:List α}{n:Nat}{K:α->Prop}(h:pT cs n K):∃ v,cs[n]?=some v/\K v:=by
 unfold pT at h;split at h
 ·rename_i v hv;exact⟨v,hv,h⟩
 ·exact h.elim
theorem bt.get{F:Nat->Nat}{w:World}{cs:List D}{l:List Value}(i:Nat){c:D}(h:bt F w cs l)(hi:cs[i]?=some c):∃ x,l[i]?=some x/\bR F w c x:=by
 have:=aq.get (yv:=none) (L:=⟨fun _=>0,fun _=>0⟩) (c:=.d c) i (aq.inj.2 h) (by rw[xY,hi];rfl);exact this
theorem FC{x:Operand}{i:Nat}(hk:gW T e h dst (.extract x i) K):∃ ws,K ws/\Out P e h ⟨dst,.extract x i,ty,pos,after,guard⟩ ws:=by
 simp only[gW]at hk;split at hk
 ·rename_i l hv
  obtain⟨v,hi,hk⟩:=o9 hk;refine⟨_,hk,bM (o:=⟨dst,.extract x i,ty,pos,after,guard⟩) fun cx r m L F st a w he hh hg=>?_⟩;obtain⟨vs,dV,hl⟩:=hg.aR (aF he hv);obtain⟨y,hy,E6⟩:=bt.get i hl hi;have py:vs[i]?=some y:=by simpa using hy
  exact⟨y,by simp[execOp,dV,Instr.extract,py],E6⟩
 ·rename_i l hv
  obtain⟨v,hi,hk⟩:=o9 hk;refine⟨_,hk,bM (o:=⟨dst,.extract x i,ty,pos,after,guard⟩) fun cx r m L F st a w he hh hg=>?_⟩;obtain⟨vs,dV,hl⟩:=hg.aR (aF he hv);obtain⟨y,hy,E6⟩:=aq.get i hl hi;have py:vs[i]?=some y:=by simpa using hy
  exact⟨y,by simp[execOp,dV,Instr.extract,py],E6⟩
 ·exact hk.elim
end
theorem CK(b c:ByteArray):(b.toList ==c.toList)=decide (b=c):=by
 rw[<- beq_toListBytes,Bool.eq_iff_iff,decide_eq_true_eq];constructor
 ·intro h
  have h:(b.data ==c.data)=true:=h;cases b;cases c
  simp only[beq_iff_eq]at h;rw[h]
 ·rintro rfl
  show(b.data ==b.data)=true;simp
theorem I4(b c:Int):(b ==c)=decide (b=c):=rfl
theorem DJ{P:Program}{w:World}(b c:ByteArray):(Op.stringOp .eql b c).run P w = .ok (.bool (decide (b=c))) w:=by
 simp[Op.stringOp,CK]
theorem DK{P:Program}{w:World}(b c:ByteArray):(Op.stringOp .neq b c).run P w = .ok (.bool (!decide (b=c))) w:=by
 simp[Op.stringOp,bne,CK]
theorem bt.take{F:Nat->Nat}{w:World}{cs:List D}{l:List Value}(n:Nat)(h:bt F w cs l):bt F w (cs.take n) (l.take n):=by
 have:=aq.take (yv:=none) (L:=⟨fun _=>0,fun _=>0⟩) n (aq.inj.2 h);rw[<- zr]at this;exact aq.inj.1 this
theorem bt.drop{F:Nat->Nat}{w:World}{cs:List D}{l:List Value}(n:Nat)(h:bt F w cs l):bt F w (cs.drop n) (l.drop n):=by
 have:=aq.drop (yv:=none) (L:=⟨fun _=>0,fun _=>0⟩) n (aq.inj.2 h);rw[<- zq]at this;exact aq.inj.1 this
section
variable {P : Program} {T : fA} {F : Nat -> Nat} {w : World}
def qk(T:fA)(F:Nat->Nat)(w:World)(t:TypeId)(xs:List D)(x:Value):Prop:=
 ∀ ti,T.get t=some ti->if ti.isAgg then ∃ l:Array Value,x = .agg l/\bt F w xs l.toList else ∀ c,xs = [c]->bR F w c x
theorem kQ(hT:bA P T){t:TypeId}{ti:sO}(ht:T.get t=some ti){cs:Array Value}{xs:List D}{off:Nat}(hx:bt F w xs cs.toList)(h:off+ti.size<=xs.length)(h1:0<ti.size) :
  ∃ x,(part t cs off).run P w = .ok x w/\qk T F w t ((xs.drop off).take ti.size) x:=by
 unfold part;have hs:=fz (w:=w) hT ht;have hl:cs.size=xs.length:=by simpa using hx.length
 cases hA:ti.isAgg
 ·have dh:off<cs.size:=by omega
  refine⟨cs[off],?_,fun ti' zk=>?_⟩
  ·simp[mi hT ht,hA,dh]
  ·rw[ht]at zk;cases zk
   simp only[hA,Bool.false_eq_true,if_false];intro c hc;have rQ:xs[off]?=some c:=by
    have:((xs.drop off).take ti.size)[0]?=some c:=by rw[hc];rfl
    rw[List.getElem?_take_of_lt h1,List.getElem?_drop]at this;simpa using this
   obtain⟨y,hy,hr⟩:=bt.get off hx rQ;have:cs[off]=y:=by
    have:=(List.getElem?_eq_some_iff.1 hy).2;simpa using this
   rw[this];exact hr
 ·refine⟨.agg (cs.extract off (off+ti.size)),?_,fun ti' zk=>?_⟩
  ·simp[mi hT ht,hA,hs]
  ·rw[ht]at zk;cases zk
   simp only[hA,if_true];refine⟨_,rfl,?_⟩;have:(cs.extract off (off+ti.size)).toList=(cs.toList.drop off).take ti.size:=by simp[List.extract_eq_take_drop]
   rw[this];exact bt.take _ (bt.drop off hx)
theorem yO(hT:bA P T){eq:TypeId->List D->List D->Option Bool}{N:Nat}
  (heq:∀ (t:TypeId) (xs ys:List D) (r:Bool),eq t xs ys=some r ->
   P.eqGuardType N t=false /\ ∀ (x y:Value),qk T F w t xs x->qk T F w t ys y->(Op.equalIn N t x y).run P w = .ok r w) :
  ∀ (fs : List Field), (∀ f ∈ fs, (f.name == "_") = false) -> ∀ (xs ys : List D) (r : Bool), Mi T eq (fs.map fun f => (f.offset, f.type)) xs ys = some r ->
  (∀ f∈fs,P.eqGuardType N f.type=false) /\ ∀ (lx ly:Array Value),bt F w xs lx.toList->bt F w ys ly.toList->(Op.eqFields N lx ly fs).run P w = .ok r w
 | [],_,xs,ys,r,h=>by
  simp only[List.map_nil,Mi,Option.some.injEq]at h;subst h;exact⟨by simp,fun _ _ _ _=>by simp[Op.eqFields]⟩
 | f::fs,zf,xs,ys,r,h=>by
  simp only[List.map_cons,Mi]at h;split at h
  ·cases h
  rename_i ti iC;split at h;case h_2=>cases h
  rename_i xF Kg Hj;have xF:ti.size≠0:=by intro e;rw[e]at xF;simp at xF
  have Kg:=oh Kg;have Hj:=oh Hj;split at h
  ·rename_i b c hb rQ
   cases h;have h1:=heq f.type _ _ b hb;have h2:=yO hT heq fs (fun g hg=>zf g (List.mem_cons_of_mem _ hg)) xs ys c rQ;refine⟨fun g hg=>?_,fun lx ly tK vG=>?_⟩
   ·rcases List.mem_cons.1 hg with rfl|hg
    ·exact h1.1
    ·exact h2.1 g hg
   ·obtain⟨x,hx,Pw⟩:=kQ (F:=F) (w:=w) hT iC tK Kg (by omega)
    obtain⟨y,hy,Px⟩:=kQ (F:=F) (w:=w) hT iC vG Hj (by omega)
    have Y2 : f.name ≠ "_" := by
     have:=zf f (List.mem_cons_self ..);simpa using this
    simp only[Op.eqFields,Y2,ne_eq,not_false_eq_true,if_true,Sem.run_bind,hx,hy,Result.andThen_ok,h1.2 x y Pw Px];cases b
    ·simp
    ·simp[h2.2 lx ly tK vG]
  ·cases h
theorem yP(hT:bA P T){e:TypeId}{ei:sO}(kD:T.get e=some ei)(h0:0<ei.size){eq:List D->List D->Option Bool}{N:Nat}
  (heq:∀ (xs ys:List D) (r:Bool),eq xs ys=some r->P.eqGuardType N e=false /\ ∀ (x y:Value),qk T F w e xs x->qk T F w e ys y->(Op.equalIn N e x y).run P w = .ok r w) :
  ∀ (n i:Nat) (xs ys:List D) (r:Bool) (lx ly:Array Value),bt F w xs lx.toList->bt F w ys ly.toList->JK eq ei.size n (xs.drop (i*ei.size)) (ys.drop (i*ei.size))=some r ->
   (Op.eqItems N e ei.size lx ly (List.range' i n)).run P w = .ok r w
 | 0,i,xs,ys,r,lx,ly,tK,vG,h=>by
  simp only[JK,Option.some.injEq]at h;subst h;simp[Op.eqItems]
 | n+1,i,xs,ys,r,lx,ly,tK,vG,h=>by
  simp only[JK]at h;split at h;case h_2=>cases h
  rename_i Kg Hj;have Kg:=oh Kg;have Hj:=oh Hj;split at h;case h_2=>cases h
  rename_i a b ha hb;cases h;rw[List.length_drop]at Kg Hj;obtain⟨x,hx,Pw⟩:=kQ (F:=F) (w:=w) hT kD tK (off:=i*ei.size) (by omega) h0;obtain⟨y,hy,Px⟩:=kQ (F:=F) (w:=w) hT kD vG (off:=i*ei.size) (by omega) h0;have h1:=(heq _ _ _ ha).2 x y Pw Px;have h2:=yP hT kD h0 heq n (i+1) xs ys b lx ly tK vG (by
   have e1:(i+1)*ei.size=i*ei.size+ei.size:=Nat.succ_mul _ _;rw[e1,<- List.drop_drop,<- List.drop_drop];exact hb)
  simp only[List.range'_succ,Op.eqItems,Sem.run_bind,hx,hy,Result.andThen_ok,h1];cases a
  ·simp
  ·simp[h2]
theorem vt(hT:bA P T):∀ (d:Nat) (t:TypeId) (xs ys:List D) (r:Bool),OX T d t xs ys=some r -> ∀ (N:Nat),d<=N ->
  P.eqGuardType N t=false /\ ∀ (x y:Value),qk T F w t xs x->qk T F w t ys y->(Op.equalIn N t x y).run P w = .ok r w
 | 0,_,_,_,_,h,_,_=>by simp[OX]at h
 | d+1,t,xs,ys,r,h,0,hN=>by omega
 | d+1,t,xs,ys,r,h,N+1,hN=>by
  simp only[OX]at h;split at h
  ·cases h
  rename_i ti iC;obtain⟨i,de,hi,ib,_,_,e8,nV,WC,_⟩:=hT t ti iC;split at h
  ·rename_i hk
   have e:=rV (e8▸hk);subst e;split at h
   ·rename_i b c;cases h
    refine⟨by simp[Program.eqGuardType,ib],fun x y hx hy=>?_⟩;have kE:=hx ti iC;have py:=hy ti iC;rw[nV]at kE py;have ex:x = .bool b:=kE _ rfl;have ey:y = .bool c:=py _ rfl;subst ex ey;exact run_equalIn_bool' w N t b c ib
   ·cases h
  ·rename_i k hk
   have e:=oz (e8▸hk);subst e;split at h
   ·rename_i k1 b k2 c
    split at h
    ·rename_i xX;have xX:=of_decide_eq_true xX;subst xX;cases h
     refine⟨by simp[Program.eqGuardType,ib],fun x y hx hy=>?_⟩;have kE:=hx ti iC;have py:=hy ti iC;rw[nV]at kE py;have ex:x = .int k1 b:=kE _ rfl;have ey:y = .int k1 c:=py _ rfl;subst ex ey;exact run_equalIn_int w N t k1 k b c ib
    ·cases h
   ·cases h
  ·rename_i hk
   have e:=jQ (e8▸hk);subst e;split at h
   ·rename_i b c;cases h
    refine⟨by simp[Program.eqGuardType,ib],fun x y hx hy=>?_⟩;have kE:=hx ti iC;have py:=hy ti iC;rw[nV]at kE py;have ex:x = .string b:=kE _ rfl;have ey:y = .string c:=py _ rfl;subst ex ey;rw[run_equalIn_string w N t b c ib,CK]
   ·cases h
  ·rename_i fs hk
   obtain⟨fa,rfl,rfl,zf⟩:=jw (e8▸hk);split at h
   ·cases h
   rename_i MM;have G0:P.stoodInHeld t=false:=(WC MM).1;have hF:=yO (P:=P) (F:=F) (w:=w) hT (fun t xs ys r h=>vt hT d t xs ys r h N (by omega)) fa.toList zf xs ys r h;refine⟨?_,fun x y hx hy=>?_⟩
   ·simp only[Program.eqGuardType,ib]
    rw[Array.any_eq_false'];intro f hf;have:=hF.1 f (by simpa using hf);simp[this]
   ·have kE:=hx ti iC;have py:=hy ti iC
    rw[nV]at kE py;simp only[tR,if_true]at kE py;obtain⟨lx,rfl,tK⟩:=kE;obtain⟨ly,rfl,vG⟩:=py;have C3:P.fieldsOf t=fa:=by simp[Program.fieldsOf,ib]
    rw[run_equalIn_struct w N t lx ly (by rw[C3];exact ib) G0,C3];exact hF.2 lx ly tK vG
  ·rename_i n e hk
   have e':=gA (e8▸hk);subst e';split at h;case h_2=>cases h
   rename_i ei kD;split at h;case h_2=>cases h
   rename_i dD xF;have dD:ei.size≠0:=by intro e;rw[e]at dD;simp at dD
   obtain⟨ie,_,nX,_,fJ,_⟩:=hT e ei kD;have EV:P.cellsOf e=ei.size:=by simp[Program.cellsOf,nX,fJ]
   have heq:=fun xs ys r h=>vt (xs:=xs) (ys:=ys) (r:=r) hT d e h N (by omega);have hI:=yP (P:=P) (F:=F) (w:=w) (T:=T) hT kD (Nat.pos_of_ne_zero dD) (N:=N) (eq:=fun xs ys=>OX T d e xs ys) (fun xs ys r h=>heq xs ys r h);refine⟨?_,fun x y hx hy=>?_⟩
   ·simp only[Program.eqGuardType,ib]
    cases n with
    | zero=>simp at xF
    | succ n=>
     simp only[JK]at h;split at h;case h_2=>cases h
     split at h;case h_2=>cases h
     rename_i a b ha _;exact(heq _ _ _ ha).1
   ·have kE:=hx ti iC;have py:=hy ti iC
    rw[nV]at kE py;simp only[tR,if_true]at kE py;obtain⟨lx,rfl,tK⟩:=kE;obtain⟨ly,rfl,vG⟩:=py;rw[run_equalIn_array w N lx ly ib nX,EV,List.range_eq_range'];exact hI n 0 xs ys r lx ly tK vG (by simpa using h)
  ·cases h
theorem Md:9<=P.depth:=by unfold Program.depth Made.depth;omega
theorem nS{op:BinOp}{t:TypeId}{x y:Operand}{u v:Value}(h:∀ l,u ≠ .agg l)(h2:u ≠ .nilIface):(eqGuard op t x y u v).run P w = .ok () w:=by
 have key:∀ (m1:Sem Unit) (m2:Sem Unit),(match u,v with
   | .nilIface,.nilIface=>m1
   | .agg _,.agg _=>m2
   | _,_=>pure ()).run P w = .ok () w:=by
  intro m1 m2;cases u<;>first|exact absurd rfl h2|exact absurd rfl (h _)|(cases v<;>rfl)
 unfold eqGuard;cases op<;>first|(simp;done)|skip
 ·exact key _ _
 ·exact key _ _
end
theorem Ff{P:Program}{T:fA}(hT:bA P T){t:TypeId}(h:isBool T t=true):P.underlying t=some .bool:=by
 unfold isBool at h;split at h
 ·rename_i ti iC
  split at h
  ·rename_i hk
   obtain⟨i,de,hi,ib,_,_,e8,_⟩:=hT t ti iC;rw[hk]at e8;rw[ib,rV e8.symm]
  ·cases h
 ·cases h
theorem Hm{T:fA}{t:TypeId}(h:uD T t=true):∃ ti,T.get t=some ti/\((∃ fs,ti.kd = .struct fs) \/ ∃ n e,ti.kd = .array n e):=by
 unfold uD at h;split at h
 ·rename_i ti iC
  split at h
  ·rename_i fs hk;exact⟨ti,iC,.inl ⟨fs,hk⟩⟩
  ·rename_i n e hk;exact⟨ti,iC,.inr ⟨n,e,hk⟩⟩
  ·cases h
 ·cases h
theorem Iv{x:Option Bool}{K:V->Prop}(h:Iu x K):∃ b,x=some b/\K (.d (.bool b)):=by
 unfold Iu at h;split at h
 ·exact⟨_,rfl,h⟩
 ·exact h.elim
theorem TU{x:Option Bool}{b:Bool}(h:TS x=some b):∃ c,x=some c/\b = !c:=by
 unfold TS at h;split at h
 ·cases h;exact⟨_,rfl,rfl⟩
 ·cases h
section
variable {P : Program} {T : fA} {e : Env} {h : Heap} {dst : Option Nat} {K : List Wr -> Prop} {ty : TypeId} {pos : String} {after : Array Edge} {guard : Option (Nat × Bool)}
theorem Kk(hT:bA P T){t:TypeId}(h:isIface T t=true):∃ ms,P.underlying t=some (.interface ms):=by
 unfold isIface at h;split at h;case h_2=>cases h
 rename_i ti ht;split at h;case h_2=>cases h
 rename_i he;obtain⟨_,de,_,ib,_,_,fx,_⟩:=hT t ti ht;rw[he]at fx;obtain⟨ms,rfl⟩:=zu fx.symm;exact⟨ms,ib⟩
theorem NC(hT:bA P T){op:BinOp}{t t':TypeId}{x y:Operand}{u v:V}(hu:aR e x=some u)(hv:aR e y=some v)(hk:R7 T op t u v fun v=>K (bw dst v)):∃ ws,K ws/\Out P e h ⟨dst,.binOp op t x y t',ty,pos,after,guard⟩ ws:=by
 have fin:∀ (d:D) (hd:K (bw dst (.d d))),(∀ {σ:Type} (cx:Cx σ) (r:Option Nat) (m:List Nat) (L:Loc) (F:Nat->Nat) (st:St σ) (a:Act) (w:World),dR e st.env->Good cx r m L F st a w ->
   ∃ s,(eqGuard op t x y (a.eval x) (a.eval y)).run P w = .ok () w/\(binOp op t (a.eval x) (a.eval y)).run P w = .ok s w/\bR F w d s) -> ∃ ws,K ws/\Out P e h ⟨dst,.binOp op t x y t',ty,pos,after,guard⟩ ws:=by
  intro d hd hr;refine⟨_,hd,bM (v:=.d d) (o:=⟨dst,.binOp op t x y t',ty,pos,after,guard⟩) fun cx r m L F st a w he hh hg=>?_⟩;obtain⟨s,h1,h2,h3⟩:=hr cx r m L F st a w he hg;exact⟨s,by simp[execOp,h1,h2],h3⟩
 unfold R7 at hk;split at hk
 ·rename_i k b k' c
  have ints:∀ {σ:Type} (cx:Cx σ) (r:Option Nat) (m:List Nat) (L:Loc) (F:Nat->Nat) (st:St σ) (a:Act) (w:World),dR e st.env->Good cx r m L F st a w ->
    a.eval x = .int k b/\a.eval y = .int k' c/\(eqGuard op t x y (a.eval x) (a.eval y)).run P w = .ok () w:=by
   intro σ cx r m L F st a w he hg;have hx:=jM hg he hu;have hy:=jM hg he hv;exact⟨hx,hy,by rw[hx,hy];exact nS (fun l e=>by cases e) (fun e=>by cases e)⟩
  split at hk
  ·obtain⟨hc,hk⟩:=cr hk
   have hc:0<=c:=of_decide_eq_true hc;refine fin _ (oZ hk) fun cx r m L F st a w he hg=>?_;obtain⟨hx,hy,h1⟩:=ints cx r m L F st a w he hg;exact⟨_,h1,by rw[hx,hy];simp[binOp,Op.shift,show ¬ c<0 by omega],rfl⟩
  ·obtain⟨hc,hk⟩:=cr hk
   have hc:0<=c:=of_decide_eq_true hc;refine fin _ hk fun cx r m L F st a w he hg=>?_;obtain⟨hx,hy,h1⟩:=ints cx r m L F st a w he hg;exact⟨_,h1,by rw[hx,hy];simp[binOp,Op.shift,show ¬ c<0 by omega],rfl⟩
  ·split at hk
   case h_2=>exact hk.elim
   rename_i xX;have xX:=of_decide_eq_true xX;subst xX;have:∃ d,K (bw dst (.d d)) /\ ∀ F w,∃ s,((binOp op t (.int k b) (.int k c)).run P w = .ok s w)/\bR F w d s:=by
    clear ints fin;cases op<;>simp only[Xr]at hk
    case add=>exact⟨_,oZ hk,fun F w=>⟨_,by simp[binOp,Op.intArith],rfl⟩⟩
    case sub=>exact⟨_,oZ hk,fun F w=>⟨_,by simp[binOp,Op.intArith],rfl⟩⟩
    case mul=>exact⟨_,oZ hk,fun F w=>⟨_,by simp[binOp,Op.intArith],rfl⟩⟩
    case quo=>
     obtain⟨hc,hb⟩:=cr hk;have hc:c≠0:=of_decide_eq_true hc;exact⟨_,oZ hb,fun F w=>⟨_,by simp[binOp,Op.intDiv,hc],rfl⟩⟩
    case rem=>
     obtain⟨hc,hb⟩:=cr hk;have hc:c≠0:=of_decide_eq_true hc;exact⟨_,hb,fun F w=>⟨_,by simp[binOp,Op.intDiv,hc],rfl⟩⟩
    case eql=>exact⟨_,hk,fun F w=>⟨.bool (decide (b=c)),by simp[binOp,Op.intCmp,I4],rfl⟩⟩
    case neq=>exact⟨_,hk,fun F w=>⟨.bool (!decide (b=c)),by simp[binOp,Op.intCmp,bne,I4],rfl⟩⟩
    case lss=>exact⟨_,hk,fun F w=>⟨_,by simp[binOp,Op.intCmp],rfl⟩⟩
    case leq=>exact⟨_,hk,fun F w=>⟨_,by simp[binOp,Op.intCmp],rfl⟩⟩
    case gtr=>exact⟨_,hk,fun F w=>⟨_,by simp[binOp,Op.intCmp],rfl⟩⟩
    case geq=>exact⟨_,hk,fun F w=>⟨_,by simp[binOp,Op.intCmp],rfl⟩⟩
    case and=>exact⟨_,hk,fun F w=>⟨_,by simp[binOp,Op.intBits,iT],rfl⟩⟩
    case or=>exact⟨_,hk,fun F w=>⟨_,by simp[binOp,Op.intBits,iT],rfl⟩⟩
    case xor=>exact⟨_,hk,fun F w=>⟨_,by simp[binOp,Op.intBits,iT],rfl⟩⟩
    case andNot=>exact⟨_,hk,fun F w=>⟨_,by simp[binOp,Op.intBits,iT],rfl⟩⟩
    all_goals exact hk.elim
   obtain⟨d,hd,bZ⟩:=this;refine fin d hd fun cx r m L F st a w he hg=>?_;obtain⟨hx,hy,h1⟩:=ints cx r m L F st a w he hg;obtain⟨s,h2,h3⟩:=bZ F w;exact⟨s,h1,by rw[hx,hy];exact h2,h3⟩
 ·rename_i b c
  have QJ:∀ {σ:Type} (cx:Cx σ) (r:Option Nat) (m:List Nat) (L:Loc) (F:Nat->Nat) (st:St σ) (a:Act) (w:World),dR e st.env->Good cx r m L F st a w ->
    a.eval x = .bool b/\a.eval y = .bool c/\(eqGuard op t x y (a.eval x) (a.eval y)).run P w = .ok () w:=by
   intro σ cx r m L F st a w he hg;have hx:=rO hg he hu;have hy:=rO hg he hv;exact⟨hx,hy,by rw[hx,hy];exact nS (fun l e=>by cases e) (fun e=>by cases e)⟩
  split at hk
  ·rename_i hb
   have ib:=Ff hT hb;refine fin _ hk fun cx r m L F st a w he hg=>?_;obtain⟨hx,hy,h1⟩:=QJ cx r m L F st a w he hg;exact⟨_,h1,by rw[hx,hy];exact run_eql_bool w t b c ib,rfl⟩
  ·rename_i hb
   have ib:=Ff hT hb;refine fin _ hk fun cx r m L F st a w he hg=>?_;obtain⟨hx,hy,h1⟩:=QJ cx r m L F st a w he hg;exact⟨_,h1,by rw[hx,hy];exact run_neq_bool w t b c ib,rfl⟩
  ·exact hk.elim
 ·rename_i b c
  have strs:∀ {σ:Type} (cx:Cx σ) (r:Option Nat) (m:List Nat) (L:Loc) (F:Nat->Nat) (st:St σ) (a:Act) (w:World),dR e st.env->Good cx r m L F st a w ->
    a.eval x = .string b/\a.eval y = .string c/\(eqGuard op t x y (a.eval x) (a.eval y)).run P w = .ok () w:=by
   intro σ cx r m L F st a w he hg;have hx:=mE hg he hu;have hy:=mE hg he hv;exact⟨hx,hy,by rw[hx,hy];exact nS (fun l e=>by cases e) (fun e=>by cases e)⟩
  split at hk
  ·refine fin _ hk fun cx r m L F st a w he hg=>?_
   obtain⟨hx,hy,h1⟩:=strs cx r m L F st a w he hg;exact⟨.bool (decide (b=c)),h1,by rw[hx,hy];simpa[binOp]using DJ b c,rfl⟩
  ·refine fin _ hk fun cx r m L F st a w he hg=>?_
   obtain⟨hx,hy,h1⟩:=strs cx r m L F st a w he hg;exact⟨.bool (!decide (b=c)),h1,by rw[hx,hy];simpa[binOp]using DK b c,rfl⟩
  ·obtain⟨dD,hk⟩:=cr hk
   have dD:=of_decide_eq_true dD;refine fin _ hk fun cx r m L F st a w he hg=>?_;obtain⟨hx,hy,h1⟩:=strs cx r m L F st a w he hg;refine⟨.string (b++c),h1,?_,rfl⟩;have S5:IntKind.i64.max=9223372036854775807:=rfl;have Pt:¬ (((b.size+c.size:Nat):Int)>9223372036854775807):=by omega
   rw[hx,hy];show(Op.stringOp .add b c).run P w=_;simp only[Op.stringOp,S5];rw[if_neg Pt];rfl
  ·exact hk.elim
 ·rename_i xs ys
  have key:∀ (b:Bool) (hs:uD T t=true) (Ur:OX T 9 t xs ys=some b) {σ:Type} (cx:Cx σ) (r:Option Nat) (m:List Nat) (L:Loc) (F:Nat->Nat) (st:St σ) (a:Act) (w:World),dR e st.env->Good cx r m L F st a w ->
    ∃ lx ly,a.eval x = .agg lx/\a.eval y = .agg ly/\(eqGuard op t x y (a.eval x) (a.eval y)).run P w = .ok () w/\(Op.equal t (a.eval x) (a.eval y)).run P w = .ok b w:=by
   intro b hs Ur σ cx r m L F st a w he hg;obtain⟨lx,hx,tK⟩:=hg.aR (aF he hu);obtain⟨ly,hy,vG⟩:=hg.aR (aF he hv);have h9:=vt (P:=P) (F:=F) (w:=w) hT 9 t xs ys b Ur;have YV:=(h9 P.depth Md).1;obtain⟨ti,iC,MN⟩:=Hm hs;obtain⟨i,de,hi,ib,_,_,e8,nV,_⟩:=hT t ti iC;have nV:ti.isAgg=true:=by
    rw[nV];rcases MN with⟨fs,MN⟩|⟨n,e,MN⟩
    ·rw[MN]at e8
     obtain⟨fa,hfa,_⟩:=jw e8.symm;subst hfa;rfl
    ·rw[MN]at e8
     have:=gA e8.symm;subst this;rfl
   have uA:∀ (zs:List D) (l:Array Value),bt F w zs l.toList->qk T F w t zs (.agg l):=fun zs l hl ti' zk=>by
    rw[iC]at zk;cases zk;rw[nV];exact⟨l,rfl,hl⟩
   refine⟨lx,ly,hx,hy,?_,?_⟩
   ·rw[hx,hy]
    unfold eqGuard;cases op<;>simp[YV]
   ·rw[hx,hy]
    exact(h9 Op.maxDepth (by decide)).2 _ _ (uA _ _ tK) (uA _ _ vG)
  split at hk
  ·rename_i hs
   obtain⟨b,Ur,hk⟩:=Iv hk;refine fin _ hk fun cx r m L F st a w he hg=>?_;obtain⟨lx,ly,hx,hy,h1,h2⟩:=key b hs Ur cx r m L F st a w he hg;refine⟨.bool b,h1,?_,rfl⟩;rw[hx,hy]at h2 ⊢;simp[binOp,h2]
  ·rename_i hs
   obtain⟨b,Ur,hk⟩:=Iv hk;obtain⟨c,aaE,rfl⟩:=TU Ur;refine fin _ hk fun cx r m L F st a w he hg=>?_;obtain⟨lx,ly,hx,hy,h1,h2⟩:=key c hs aaE cx r m L F st a w he hg;refine⟨.bool !c,h1,?_,rfl⟩;rw[hx,hy]at h2 ⊢;simp[binOp,h2]
  ·exact hk.elim
 ·exact hk.elim
theorem FE(hT:bA P T){op:BinOp}{t t':TypeId}{x y:Operand}{u:D}{b:Bool}(hu:aR e x=some (.d u))(hb:(u = .nili/\b=true)\/(∃ t v,u = .ifc t v)/\b=false)(nY:Hl y=true)(hk:Je T op t b fun v=>K (bw dst v)) :
  ∃ ws,K ws/\Out P e h ⟨dst,.binOp op t x y t',ty,pos,after,guard⟩ ws:=by
 have hy:y = .const .nilIface:=by
  unfold Hl at nY;split at nY
  ·rfl
  ·cases nY
 subst hy;have key:isIface T t=true -> ∀ {σ:Type} (cx:Cx σ) (r:Option Nat) (m:List Nat) (L:Loc) (F:Nat->Nat) (st:St σ) (a:Act) (w:World),dR e st.env->Good cx r m L F st a w ->
   (eqGuard op t x (.const .nilIface) (a.eval x) .nilIface).run P w = .ok () w/\(Op.equal t (a.eval x) .nilIface).run P w = .ok b w/\((∃ t v,a.eval x = .iface t v)\/a.eval x = .nilIface):=by
  intro SX σ cx r m L F st a w he hg;have hx:=hg.aR (aF he hu);obtain⟨ms,hms⟩:=Kk hT SX;have hE:∀ z,Op.equal t z .nilIface=Op.equalIn ((Op.maxDepth-1)+1) t z .nilIface:=fun _=>rfl;rw[hE];generalize Op.maxDepth-1=n;rcases hb with⟨rfl,rfl⟩|⟨⟨t1,v1,rfl⟩,rfl⟩
  ·have hx:a.eval x = .nilIface:=hx
   rw[hx];exact⟨by unfold eqGuard;cases op<;>simp,by simp only[Op.equalIn];simp[run_underlying hms],.inr rfl⟩
  ·obtain⟨y1,hx,_⟩:=hx
   rw[hx];exact⟨by unfold eqGuard;cases op<;>simp,by simp only[Op.equalIn];simp[run_underlying hms],.inl ⟨_,_,rfl⟩⟩
 have fin:∀ (c:Bool) (hd:K (bw dst (.d (.bool c)))) (_:isIface T t=true) (_:∀ (z:Value) (w:World),((∃ t v,z = .iface t v)\/z = .nilIface)->(Op.equal t z .nilIface).run P w = .ok b w->(binOp op t z .nilIface).run P w = .ok (.bool c) w),
   ∃ ws,K ws/\Out P e h ⟨dst,.binOp op t x (.const .nilIface) t',ty,pos,after,guard⟩ ws:=by
  intro c hd SX hr;refine⟨_,hd,bM (v:=.d (.bool c)) (o:=⟨dst,.binOp op t x (.const .nilIface) t',ty,pos,after,guard⟩) fun cx r m L F st a w he hh hg=>?_⟩;obtain⟨h1,h2,h3⟩:=key SX cx r m L F st a w he hg;have h4:=hr _ w h3 h2;have hc:a.eval (.const .nilIface) = .nilIface:=rfl;exact⟨_,by simp[execOp,hc,h1,h4],rfl⟩
 unfold Je at hk;split at hk
 ·rename_i SX
  refine fin b hk SX fun z w hz h2=>?_;rcases hz with⟨t1,v1,rfl⟩|rfl<;>simp[binOp,h2]
 ·rename_i SX
  refine fin (!b) hk SX fun z w hz h2=>?_;rcases hz with⟨t1,v1,rfl⟩|rfl<;>simp[binOp,h2]
 ·exact hk.elim
theorem KF(hT:bA P T){op:BinOp}{t t':TypeId}{x y:Operand}(hk:gW T e h dst (.binOp op t x y t') K):∃ ws,K ws/\Out P e h ⟨dst,.binOp op t x y t',ty,pos,after,guard⟩ ws:=by
 simp only[gW]at hk;split at hk;case h_2=>exact hk.elim
 rename_i u v hu hv;split at hk
 ·rename_i hn
  exact FE hT hu (.inl ⟨rfl,rfl⟩) hn hk
 ·rename_i hn
  exact FE hT hu (.inr ⟨⟨_,_,rfl⟩,rfl⟩) hn hk
 ·exact NC hT hu hv hk
end
end Go.PX
