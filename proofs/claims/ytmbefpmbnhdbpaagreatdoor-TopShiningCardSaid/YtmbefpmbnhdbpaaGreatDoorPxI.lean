import Derived.Test.YtmbefpmbnhdbpaaGreatDoorPxH
set_option linter.all false
namespace Go.PX
open Go.RowKit
mutual
def iN:V->Bool
 | .agg cs=>j5 cs
 | .tup cs=>j5 cs
 | .clo _ cs=>j5 cs
 | .yld=>false
 | _=>true
def j5:List V->Bool
 | []=>true
 | v::r=>iN v&&j5 r
end
mutual
theorem br.iN{yv YA:Option Nat}{L:Loc}{F:Nat->Nat}{w:World}:∀ (v:V) (x:Value),PX.iN v=true->br yv L F w v x->br YA L F w v x
 | .d _,_,_,h=>h
 | .agg cs,x,hy,h=>by
  obtain⟨l,rfl,hl⟩:=h;exact⟨l,rfl,aq.iN cs _ hy hl⟩
 | .tup cs,x,hy,h=>by
  obtain⟨l,rfl,hl⟩:=h;exact⟨l,rfl,aq.iN cs _ hy hl⟩
 | .clo f cs,x,hy,h=>by
  obtain⟨l,rfl,hl⟩:=h;exact⟨l,rfl,aq.iN cs _ hy hl⟩
 | .ptr _ _,_,_,h=>h
 | .ep _ _ _ _,_,_,h=>h
 | .sl _ _ _ _,_,_,h=>h
 | .mp _,_,_,h=>h
 | .it _,_,_,h=>h
 | .yld,_,hy,_=>by cases hy
 | .unk,_,_,h=>h
theorem aq.iN{yv YA:Option Nat}{L:Loc}{F:Nat->Nat}{w:World}:∀ (vs:List V) (l:List Value),j5 vs=true->aq yv L F w vs l->aq YA L F w vs l
 | [],_,_,h=>h
 | v::r,l,hy,h=>by
  simp only[j5,Bool.and_eq_true]at hy;obtain⟨x,l',rfl,hx,hl⟩:=h;exact⟨x,l',rfl,br.iN v x hy.1 hx,aq.iN r l' hy.2 hl⟩
end
def wC:Obj->Bool
 | .box c=>j5 c.bJ
 | .arr _ es=>j5 es.bJ.flatten
 | .mit v _ _ _=>iN v
 | .tb _ l=>j5 l
 | _=>true
def wB:Heap->Bool
 | []=>true
 | (_,o)::r=>wC o&&wB r
theorem kZ:∀ {h:Heap} {i:Nat} {o:Obj},wB h=true->get h i=some o->wC o=true
 | [],i,o,_,h=>by cases h
 | (k,p)::r,i,o,hy,h=>by
  simp only[wB,Bool.and_eq_true]at hy;simp only[get]at h;split at h
  ·cases h;exact hy.1
  ·exact kZ hy.2 h
theorem bU.iN{yv YA:Option Nat}{L:Loc}{F:Nat->Nat}{w:World}{id:Nat}(o:Obj)(hy:wC o=true)(h:bU yv L F w id o):bU YA L F w id o:=by
 cases o with
 | box cs=>
  obtain⟨c,T,hc,hr⟩:=h;exact⟨c,T,hc,aq.iN _ _ hy hr⟩
 | arr sz es=>
  obtain⟨h1,h2,h3⟩:=h;refine⟨h1,h2,h3.imp (fun h=>h) ?_⟩;rintro ⟨c,T,hc,k1,k2,hr⟩;refine⟨c,T,hc,k1,k2,aq.iN _ _ hy hr⟩
 | map cY=>exact h
 | iter s n=>exact h
 | buf t s=>exact h
 | tb t l=>
  obtain⟨c,hc,hr⟩:=h;exact⟨c,hc,aq.iN _ _ hy hr⟩
 | mit v n l u=>
  obtain⟨r,seen,h1,h2⟩:=h;exact⟨r,seen,br.iN v _ hy h1,h2⟩
inductive RS(α σ:Type) where
 | go (x:α)
 | done (e:fu) (h:Heap) (s:σ)
section
variable {α σ : Type}
def RS.heap(I:α->Heap×σ):RS α σ->Heap
 | .go x=>(I x).1
 | .done _ h _=>h
def RS.st(I:α->Heap×σ):RS α σ->σ
 | .go x=>(I x).2
 | .done _ _ s=>s
def TE:fu->Code
 | .ret=>.ret
 | .exit i=>.exit i
 | .normal=>.skip
def jA(base:Go.Loop):RS α σ->Go.Loop
 | .go _=>{ base with state:=.ready,pending:=none }
 | .done e _ _=>{ base with state:=.done,pending:=some (TE e) }
def yn(L:Loc)(h:Heap)(b:Nat):Prop:=∃ id o,get h id=some o/\aS L id o/\L.ρ id=b
def ba(c n i:Nat):Bool:=Nat.ble c i&&Nat.blt i (c+n)
def sb(p:Nat->Bool):List Nat->Bool
 | []=>true
 | i::r=>p i&&sb p r
theorem dJ{p:Nat->Bool}:∀ {l:List Nat},sb p l=true -> ∀ i∈l,p i=true
 | [],_,i,hi=>by cases hi
 | k::r,h,i,hi=>by
  simp only[sb,Bool.and_eq_true]at h;rcases List.mem_cons.1 hi with rfl|hi
  ·exact h.1
  ·exact dJ h.2 i hi
def Ny(c:Nat)(tb:List Nat)(h:Heap):Bool:=sb (fun i=>!ba c 64 i && !D8 tb i) (cB h)
def UE(args:List V)(h:Heap):Bool:=sb (ba 1000000 64) (ck args)&&sb (ba 1000000 64) (cB h)&&(j5 args&&wB h)
structure OI(cx:Cx σ)(I:α->Heap×σ)(l:Nat)(m:List Nat)(r:Option Nat)(base:Go.Loop)(e1:Env)(tmps:Array Value)(c:Nat)(tb:List Nat)(pρ pκ:Nat->Nat)(F0:Nat->Nat)(w0:World)(g:RS α σ×Loc)(w:World)(F:Nat->Nat):Prop where
 heap:a7 cx g.2 F (g.1.heap I) (g.1.st I) w
 B7:w.heap[l]?=some (.loop (jA base g.1))/\¬ cx.C (g.1.st I) l
 pB:∀ b∈m,w.heap[b]?=some (.deferred (some []))/\¬ cx.C (g.1.st I) b
 out:∀ l0,r=some l0 -> ∃ lp,(w.heap[l0]?=some (.loop lp)/\cx.B7=some lp)/\¬ cx.C (g.1.st I) l0
 env:∀ t v,get e1 t=some v -> ∃ x,tmps[t]?=some x/\br cx.yv g.2 F w v x
 jF:∀ i,pinned i->g.2.ρ i=pρ i/\g.2.κ i=pκ i
 tr:Tr F0 w0 F w
 ok:Ny c tb (g.1.heap I)=true
def fY(cx:Cx σ)(I:α->Heap×σ)(l:Nat)(m:List Nat)(r:Option Nat)(base:Go.Loop)(e1:Env)(tmps:Array Value)(c:Nat)(tb:List Nat)(pρ pκ:Nat->Nat)(F0:Nat->Nat)(w0:World):Cx (RS α σ×Loc) where
 C:=fun g b=>cx.C (g.1.st I) b\/yn g.2 (g.1.heap I) b\/b=l\/b∈m\/r=some b
 HG:=fun g w F=>OI cx I l m r base e1 tmps c tb pρ pκ F0 w0 g w F
 yv:=some l
 B7:=none
 pρ:=cx.pρ
 pκ:=cx.pκ
 gE:=by
  intro s w F w' F' h tr hf hk;refine⟨h.heap.n5 tr hf (fun b hb=>hk b (.inl hb)) (fun id o hi hb=>hk _ (.inr (.inl ⟨id,o,hi,hb,rfl⟩))),⟨by rw[(hk l (.inr (.inr (.inl rfl)))).1];exact h.B7.1,h.B7.2⟩,
   fun b hb=>⟨by rw[(hk b (.inr (.inr (.inr (.inl hb))))).1];exact(h.pB b hb).1,(h.pB b hb).2⟩,fun l0 hl=>?_,fun t v ht=>?_,h.jF,Tr.trans h.tr tr,h.ok⟩
  ·obtain⟨lp,⟨k1,k2⟩,k3⟩:=h.out l0 hl
   exact⟨lp,⟨by rw[(hk l0 (.inr (.inr (.inr (.inr hl))))).1];exact k1,k2⟩,k3⟩
  ·obtain⟨x,hx,hr⟩:=h.env t v ht
   exact⟨x,hx,br.mono tr v x (fun _ _=>⟨rfl,rfl⟩) hr⟩
def Ga:List Tmp->List V->Env->Env
 | t::ps,v::vs,e=>Ga ps vs (put e t v)
 | _,_,e=>e
def dp(c:Nat)(i:Nat):Nat:=
 match Nat.ble 1000000 i,Nat.blt i 1000064 with
 | true,true=>c+(i-1000000)
 | _,_=>i
noncomputable def lr(P:Program)(T:fA)(ft:FT)(Y:Hd σ)(I:α->Heap×σ)(ps:Array Tmp)(a b:Code)(e1:Env)(c:Nat)(tb:List Nat):Hd (RS α σ) where
 y:=fun args h g Q=>match g with
  | .done _ _ _=>False
  | .go x=>(args.length=ps.size/\UE args h=true)/\Ct P T ft Y.np a ⟨Ga ps.toList (sq (dp c) args) e1,(I x).1++ew (dp c) h,(I x).2⟩ fun e st=>match e with
   | .normal=>Ct P T ft Y.np b st fun e st'=>match e with
    | .normal=>∃ x',Wk st' ⟨[],(I x').1++ew (dp c) h,(I x').2⟩/\Ny c tb (I x').1=true/\Q (.d (.bool true)) h (.go x')
    | e=>∃ hd s',Wk st' ⟨[],hd++ew (dp c) h,s'⟩/\Ny c tb hd=true/\Q (.d (.bool false)) h (.done e hd s')
   | _=>False
def uK(Y:Hd (RS α σ)):Hd (RS α σ×Loc) where
 y:=fun args h g Q=>Y.y args h g.1 fun v h' g'=>∀ L',Q v h' (g',L')
theorem a7.append{cx:Cx σ}{L:Loc}{F:Nat->Nat}{h k:Heap}{s:σ}{w:World}(hh:a7 cx L F h s w)(hk:a7 cx L F k s w)
  (hx:∀ i j o p,get h i=some o->get k j=some p->aS L i o->aS L j p->L.ρ i≠L.ρ j):a7 cx L F (h++k) s w:=by
 have hg:∀ {h:Heap} {i:Nat} {o:Obj},get (h++k) i=some o->get h i=some o\/get k i=some o:=by
  intro h
  induction h with
  | nil=>exact fun h=>.inr h
  | cons a r ih=>
   intro i o h;obtain⟨j,p⟩:=a;simp only[List.cons_append,get]at h ⊢;split at h
   ·exact .inl h
   ·exact ih h
 refine⟨hh.hg,hh.hP,hh.fresh,fun i o hi=>(hg hi).elim (hh.obj i o) (hk.obj i o),fun i o hi=>(hg hi).elim (hh.own i o) (hk.own i o),fun i j o p hi hj hb lO e=>?_⟩;rcases hg hi with hi|hi<;>rcases hg hj with hj|hj
 ·exact hh.inj i j o p hi hj hb lO e
 ·exact absurd e (hx i j o p hi hj hb lO)
 ·exact absurd e.symm (hx j i p o hj hi lO hb)
 ·exact hk.inj i j o p hi hj hb lO e
theorem pU{h k:Heap}{i:Nat}{o:Obj}:get h i=some o->get (h++k) i=some o:=by
 induction h with
 | nil=>intro h;cases h
 | cons a r ih=>
  intro h;obtain⟨j,p⟩:=a;simp only[List.cons_append,get]at h ⊢;split at h
  ·exact h
  ·exact ih h
theorem vA{h k:Heap}{i:Nat}{o:Obj}:get h i=none->get k i=some o->get (h++k) i=some o:=by
 induction h with
 | nil=>intro _ h;exact h
 | cons a r ih=>
  intro h1 h2;obtain⟨j,p⟩:=a;simp only[List.cons_append,get]at h1 ⊢;split at h1
  ·cases h1
  ·exact ih h1 h2
theorem wR{R:Nat->Nat}:∀ {h:Heap} {j:Nat} {o:Obj},(∀ i∈cB h,R i=R j->i=j)->get h j=some o->get (ew R h) (R j)=some (kO R o)
 | [],j,o,_,h=>by cases h
 | (k,p)::r,j,o,hi,h=>by
  simp only[get]at h;simp only[ew,get];split at h
  ·rename_i he
   have:=Nat.eq_of_beq_eq_true he;subst this;cases h;simp
  ·rename_i he
   have:Nat.beq (R k) (R j)=false:=by
    rw[Bool.eq_false_iff];intro e;have:=hi k (by simp[cB]) (Nat.eq_of_beq_eq_true e);subst this;simp at he
   simp only[this];exact wR (fun i h1=>hi i (by simp[cB,h1])) h
theorem cC.np{P:Program}{Y:Hd σ}{cx:Cx σ}(hY:cC P Y cx):cC P Y.np cx:=⟨hY.yld,hY.laid⟩
theorem cC.Ol{P:Program}{Y:Hd σ}{cx:Cx σ}(hY:cC P Y cx)(B7:Option Go.Loop)(pρ pκ:Nat->Nat):cC P Y { cx with B7:=B7,pρ:=pρ,pκ:=pκ }:=by
 refine⟨?_,hY.laid⟩;intro l hl args h s Q hy L' F' aT w nn hr;obtain⟨fn,tmps,xR,body,h1,h2⟩:=hY.yld l hl args h s Q hy L' F' aT w ⟨nn.hg,nn.hP,nn.fresh,nn.obj,nn.own,nn.inj⟩ hr;refine⟨fn,tmps,xR,body,h1,h2.mono ?_⟩;rintro e w' ⟨x,he,v,h',s',Lx,Ij,hq,eX,rest⟩;exact⟨x,he,v,h',s',Lx,Ij,hq,⟨eX.hg,eX.hP,eX.fresh,eX.obj,eX.own,eX.inj⟩,rest⟩
theorem Good.record{cx:Cx σ}{l:Nat}{m:List Nat}{L:Loc}{F:Nat->Nat}{st:St σ}{a:Act}{w:World}(hg:Good cx (some l) m L F st a w)(lp:Go.Loop) :
  Good { cx with B7:=some lp } (some l) m L F st a (w.putObj l (.loop lp))/\Tr F w F (w.putObj l (.loop lp)):=by
 obtain⟨Y9,⟨h1,_⟩,h2⟩:=hg.lk l rfl;have tr:Tr F w F (w.putObj l (.loop lp)):=Tr.YD h1 (fun _ _ _ h=>by cases h) (fun _ _ h=>by cases h) (fun _ _ _ h=>by cases h);have hk:∀ x,x≠l->(w.putObj l (.loop lp)).heap[x]?=w.heap[x]?:=fun x hx=>World.putObj_heap_other hx;have hh:=hg.heap.n5 tr (fun b hb=>hg.heap.fresh b (by simpa using hb)) (fun b hb=>⟨hk b (by rintro rfl;exact h2 hb),rfl⟩) (fun id o hi hb=>⟨hk _ (by
  intro e;exact(bU.lT (hg.heap.obj id o hi) hb (by rw[e];exact h1)).1 Y9 rfl),rfl⟩)
 refine⟨⟨⟨hh.hg,hh.hP,hh.fresh,hh.obj,hh.own,hh.inj⟩,fun t v ht=>?_,hg.tZ,fun b hb=>?_,hg.xe,fun l' hl=>?_,hg.jF,hg.ve⟩,tr⟩
 ·obtain⟨x,hx,hr⟩:=hg.env t v ht
  exact⟨x,hx,br.mono tr v x (fun _ _=>⟨rfl,rfl⟩) hr⟩
 ·obtain⟨k1,k2⟩:=hg.pB b hb
  exact⟨by rw[hk b (by rintro rfl;rw[h1]at k1;cases k1)];exact k1,k2⟩
 ·cases hl
  exact⟨lp,⟨World.putObj_heap_same (bP h1),rfl⟩,h2⟩
end
end Go.PX
namespace Go.PX
open Go.RowKit
section
variable {P : Program} {T : fA} {ft : FT} {α σ : Type} {Y : Hd σ} {cx : Cx σ} {I : α -> Heap × σ} {l : Nat} {m : List Nat} {r : Option Nat} {base : Go.Loop} {e1 : Env} {tmps : Array Value} {c : Nat} {tb : List Nat} {pρ pκ : Nat -> Nat} {F0 : Nat -> Nat} {w0 : World}
theorem oA{c i:Nat}(h:ba 1000000 64 i=true):dp c i=c+(i-1000000)/\1000000<=i/\i<1000064:=by
 simp only[ba,Bool.and_eq_true]at h;have h1:=Nat.le_of_ble_eq_true h.1;have h2:i<1000064:=Nat.le_of_ble_eq_true h.2;exact⟨by unfold dp;rw[h.1,show Nat.blt i 1000064=true from h.2],h1,h2⟩
theorem eK{c n i:Nat}:ba c n i=true↔c<=i/\i<c+n:=by
 simp only[ba,Bool.and_eq_true];exact⟨fun h=>⟨Nat.le_of_ble_eq_true h.1,Nat.le_of_ble_eq_true h.2⟩,fun h=>⟨Nat.ble_eq_true_of_le h.1,Nat.ble_eq_true_of_le h.2⟩⟩
def cw(c:Nat)(L L2:Loc):Loc:=⟨fun j=>if ba c 64 j then L2.ρ (1000000+(j-c)) else L.ρ j,fun j=>if ba c 64 j then L2.κ (1000000+(j-c)) else L.κ j⟩
theorem fg{L L2:Loc}{j:Nat}(h:ba c 64 j=false):(cw c L L2).ρ j=L.ρ j/\(cw c L L2).κ j=L.κ j:=by
 simp[cw,h]
theorem kP{L L2:Loc}{i:Nat}(h:ba 1000000 64 i=true):(cw c L L2).ρ (dp c i)=L2.ρ i/\(cw c L L2).κ (dp c i)=L2.κ i:=by
 obtain⟨h1,h2,h3⟩:=oA (c:=c) h;have:ba c 64 (dp c i)=true:=by rw[eK];omega
 have h4:1000000+(dp c i-c)=i:=by omega
 simp[cw,this,h4]
theorem ri{h:Heap}(hk:Ny c tb h=true):∀ i∈cB h,ba c 64 i=false/\i∉tb:=by
 intro i hi;have:=dJ hk i hi;simp only[Bool.and_eq_true,Bool.not_eq_true']at this;exact⟨this.1,fun hm=>by rw[fX.2 hm]at this;cases this.2⟩
theorem Cg:∀ {ps:List Tmp} {vs:List V} {e:Env} {aT:List Value} {t0:Array Value} {yv:Option Nat} {L:Loc} {F:Nat->Nat} {w:World},ps.length=vs.length->(∀ p∈ps,p<t0.size)->aq yv L F w vs aT->(∀ t v,get e t=some v -> ∃ x,t0[t]?=some x/\br yv L F w v x) ->
  ∀ t v,get (Ga ps vs e) t=some v -> ∃ x,((ps.zip aT).foldl (fun tm (p:Tmp×Value)=>tm.setIfInBounds p.1 p.2) t0)[t]?=some x/\br yv L F w v x
 | [],vs,e,aT,t0,yv,L,F,w,_,_,_,he,t,v,ht=>by
  have:Ga [] vs e=e:=by cases vs<;>rfl
  rw[this]at ht;simpa using he t v ht
 | p::ps,[],e,aT,t0,yv,L,F,w,hl,_,_,_,_,_,_=>by cases hl
 | p::ps,v0::vs,e,_,t0,yv,L,F,w,hl,hp,⟨x,l',rfl,hx,hr⟩,he,t,v,ht=>by
  simp only[List.zip_cons_cons,List.foldl_cons];refine Cg (ps:=ps) (vs:=vs) (e:=put e p v0) (t0:=t0.setIfInBounds p x) (by simpa using hl) (fun q hq=>by simpa using hp q (List.mem_cons_of_mem _ hq)) hr (fun t' v' Y3=>?_) t v ht;clear ht;rw[e6]at Y3;split at Y3
  ·rename_i e1;cases Y3;rw[e1]
   exact⟨x,by simp[Array.getElem?_setIfInBounds,hp p (List.mem_cons_self ..)],hx⟩
  ·rename_i e1
   obtain⟨y,hy,E6⟩:=he t' v' Y3;exact⟨y,by rw[Array.getElem?_setIfInBounds_ne (Ne.symm e1)];exact hy,E6⟩
theorem sY:∀ (l:List (Tmp×Value)) (t0:Array Value),(l.foldl (fun tm (p:Tmp×Value)=>tm.setIfInBounds p.1 p.2) t0).size=t0.size
 | [],t0=>rfl
 | p::l,t0=>by simp only[List.foldl_cons];rw[sY l];simp
def yd(cx:Cx σ)(s0:σ)(w:World)(F:Nat->Nat)(Own:Nat->Prop)(l:Nat)(B7:Option Go.Loop)(pρ pκ:Nat->Nat):Cx σ:=
 { Dl cx s0 w F (fun b=>Own b\/b=l) with B7:=B7,pρ:=pρ,pκ:=pκ }
theorem FQ{cx:Cx σ}{I:α->Heap×σ}{x:α}{L1:Loc}{w:World}{F:Nat->Nat}(hg:(fY cx I l m r base e1 tmps c tb pρ pκ F0 w0).HG (.go x,L1) w F)(uu:base.state = .ready/\base.pending=none){ps:Array Tmp}
  (A3:∀ p∈ps.toList,p<tmps.size) (htm:tmps.size<=1000000) (hc:1000000<=c/\c+64<=2000000) (hE:∀ i∈eV e1,pinned i/\ba c 64 i=false) {args:List V} {h:Heap} {L2:Loc} {aT:Array Value}
  (hh:a7 (fY cx I l m r base e1 tmps c tb pρ pκ F0 w0) L2 F h (.go x,L1) w) (hr:aq (some l) L2 F w args aT.toList) (hlen:args.length=ps.size) (gL:UE args h=true) :
  Good (yd cx (I x).2 w F (yn (cw c L1 L2) ((I x).1++ew (dp c) h)) l (some base) (cw c L1 L2).ρ (cw c L1 L2).κ) (some l) [] (cw c L1 L2) F
   ⟨Ga ps.toList (sq (dp c) args) e1,(I x).1++ew (dp c) h,(I x).2⟩ { tmps:=(ps.zip aT).foldl (fun t (p,v)=>t.setIfInBounds p v) tmps,defers:=[] } w:=by
 obtain⟨i1,i2,i3,i4,i5,i6,i7,i8⟩:=hg;simp only[RS.heap,RS.st]at i1 i2 i3 i4 i8;simp only[UE,Bool.and_eq_true]at gL;obtain⟨⟨hA,hB⟩,Y6⟩:=gL;have hA:=dJ hA;have hB:=dJ hB;have hC:=ri i8;have ML:a7 cx L2 F h (I x).2 w:=⟨i1.hg,fun b hb=>hh.hP b (.inl hb),hh.fresh,fun id o hi=>bU.iN o (kZ Y6.2 hi) (hh.obj id o hi),fun id o hi hb=>⟨(hh.own id o hi hb).1,fun h=>(hh.own id o hi hb).2 (.inl h)⟩,hh.inj⟩;have Tf:aq cx.yv L2 F w args aT.toList:=aq.iN _ _ Y6.1 hr;have hA1:a7 cx (cw c L1 L2) F (I x).1 (I x).2 w:=by
  refine⟨i1.hg,i1.hP,i1.fresh,fun id o hi=>?_,fun id o hi hb=>?_,fun i j o p hi hj hb lO e=>?_⟩
  ·obtain⟨n1,n2⟩:=aI hi
   exact bU.mono (Tr.refl F w) id o (fun j hj=>fg (hC j (n2 j (eH j o hj))).1) (fg (hC id n1).1) (fun _=>rfl) (i1.obj id o hi)
  ·obtain⟨n1,n2⟩:=aI hi
   obtain⟨q1,q2⟩:=fg (L:=L1) (L2:=L2) (hC id n1).1;rw[q1];exact i1.own id o hi (fZ q2 hb)
  ·obtain⟨n1,_⟩:=aI hi
   obtain⟨n2,_⟩:=aI hj;obtain⟨q1,q2⟩:=fg (L:=L1) (L2:=L2) (hC i n1).1;obtain⟨q3,q4⟩:=fg (L:=L1) (L2:=L2) (hC j n2).1;rw[q1,q3]at e;exact i1.inj i j o p hi hj (fZ q2 hb) (fZ q4 lO) e
 have hB1:a7 cx (cw c L1 L2) F (ew (dp c) h) (I x).2 w:=ML.oc fun i hi=>kP (hB i hi);have Sv:=hA1.append hB1 (by
  intro i j o p hi hj hb lO e;obtain⟨n1,_⟩:=aI hi;obtain⟨q1,q2⟩:=fg (L:=L1) (L2:=L2) (hC i n1).1;obtain⟨j',p',C4,rfl,rfl⟩:=jO hj;obtain⟨n2,_⟩:=aI C4;obtain⟨q3,q4⟩:=kP (c:=c) (L:=L1) (L2:=L2) (hB j' n2);rw[q1,q3]at e;refine(hh.own j' p' C4 ((cE (R:=dp c) (L:=L2) (L':=cw c L1 L2) j' p' q4).1 lO)).2 (.inr (.inl ⟨i,o,hi,fZ q2 hb,e⟩)))
 refine⟨⟨⟨i1.hg,Nat.le_refl _,fun b hb hc=>hc,fun b hb hl hc=>⟨rfl,rfl⟩⟩,fun b hb=>hb.elim (i1.hP b) (fun h=>h.1),i1.fresh,Sv.obj,fun id o hi hb=>⟨(Sv.own id o hi hb).1,fun hC=>hC.elim (Sv.own id o hi hb).2 fun hC=>hC.2 (.inl ⟨id,o,hi,hb,rfl⟩)⟩,Sv.inj⟩,?_,rfl,(fun b hb=>by cases hb),List.nodup_nil,?_,fun _ _=>⟨rfl,rfl⟩,?_⟩
 ·intro t v ht
  have Rp:aq cx.yv (cw c L1 L2) F w (sq (dp c) args) aT.toList:=(aq.oc (R:=dp c) (L:=L2) (L':=cw c L1 L2) args _ fun i hi=>kP (hA i (e9 i args hi))).2 Tf;have:=Cg (ps:=ps.toList) (t0:=tmps) (by simp[kF,hlen]) A3 Rp (fun t v ht=>by
   obtain⟨y,hy,E6⟩:=i5 t v ht;exact⟨y,hy,br.mono (Tr.refl F w) v y (fun j hj=>fg (hE j (gw ht hj)).2) E6⟩) t v ht
  rw[<- Array.foldl_toList,Array.toList_zip];exact this
 ·intro l' hl
  cases hl;have hb:jA base (RS.go x:RS α σ)=base:=by
   obtain⟨h1,h2⟩:=uu;cases base;simp only at h1 h2;subst h1;subst h2;rfl
  rw[hb]at i2;exact⟨base,⟨i2.1,rfl⟩,fun hC=>hC.elim i2.2 fun hC=>hC.2 (.inr rfl)⟩
 ·show((ps.zip aT).foldl (fun t (p,v)=>t.setIfInBounds p v) tmps).size<=1000000
  rw[<- Array.foldl_toList,sY];exact htm
theorem FR{cx:Cx σ}{I:α->Heap×σ}{x:α}{L1:Loc}{w:World}{F:Nat->Nat}(hg:(fY cx I l m r base e1 tmps c tb pρ pκ F0 w0).HG (.go x,L1) w F)(Po:r≠some l)(hc:1000000<=c/\c+64<=2000000)(hE:∀ i∈eV e1,pinned i/\ba c 64 i=false)
  {args:List V} {h:Heap} {L2:Loc} (hh:a7 (fY cx I l m r base e1 tmps c tb pρ pκ F0 w0) L2 F h (.go x,L1) w) (gL:UE args h=true) {lp:Go.Loop} {m1:List Nat} {L3:Loc} {F3:Nat->Nat} {a:Act} {w3:World} {g:RS α σ} (xW:jA lp g=jA base g)
  (hd:Good (yd cx (I x).2 w F (yn (cw c L1 L2) ((I x).1++ew (dp c) h)) l (some lp) (cw c L1 L2).ρ (cw c L1 L2).κ) (some l) m1 L3 F3 ⟨[],g.heap I++ew (dp c) h,g.st I⟩ a w3) (A2:Ny c tb (g.heap I)=true) (tr:Tr F w F3 w3) :
  ∃ L4 L5,a7 (fY cx I l m r base e1 tmps c tb pρ pκ F0 w0) L5 F3 h (g,L4) (w3.putObj l (.loop (jA base g)))/\Tr F w F3 (w3.putObj l (.loop (jA base g)))/\nz L2 L5 /\
   (∀ b,b<w.heap.size->¬ (fY cx I l m r base e1 tmps c tb pρ pκ F0 w0).C (.go x,L1) b->¬ (fY cx I l m r base e1 tmps c tb pρ pκ F0 w0).C (g,L4) b) /\
   (∀ b,b<w.heap.size->¬ (fY cx I l m r base e1 tmps c tb pρ pκ F0 w0).C (.go x,L1) b->(∀ id o,get h id=some o->aS L2 id o->L2.ρ id≠b)->(w3.putObj l (.loop (jA base g))).heap[b]?=w.heap[b]?/\F3 b=F b) /\
   (∀ id o,get h id=some o->aS L5 id o->L5.ρ id<w.heap.size -> ∃ pz o',get h pz=some o'/\aS L2 pz o'/\L2.ρ pz=L5.ρ id):=by
 obtain⟨i1,i2,i3,i4,i5,i6,i7,i8⟩:=hg;simp only[RS.heap,RS.st]at i1 i2 i3 i4 i8;simp only[UE,Bool.and_eq_true]at gL;obtain⟨⟨hA,hB⟩,Y6⟩:=gL;have hB:=dJ hB;have hC:=ri i8;have YN:=ri A2;obtain⟨uo,dD,EM,iL⟩:=hd.heap.hg;obtain⟨lp',⟨k1,k2⟩,k3⟩:=hd.lk l rfl;have k2:some lp=some lp':=k2;cases k2;have hlC:¬ cx.C (g.st I) l:=fun h=>k3 (.inl h);have gN:∀ i,ba c 64 i=true->pinned i:=fun i hi=>by rw[eK]at hi;unfold pinned;omega
 have rS:∀ i,ba 1000000 64 i=true->L3.ρ (dp c i)=L2.ρ i/\L3.κ (dp c i)=L2.κ i:=by
  intro i hi;obtain⟨p1,p2⟩:=hd.jF (dp c i) (by obtain⟨q1,q2,q3⟩:=oA (c:=c) hi;unfold pinned;omega);obtain⟨p3,p4⟩:=kP (c:=c) (L:=L1) (L2:=L2) hi;exact⟨p1.trans p3,p2.trans p4⟩
 let L4:Loc:=⟨fun j=>if ba c 64 j then L1.ρ j else L3.ρ j,fun j=>if ba c 64 j then L1.κ j else L3.κ j⟩
 have Um:∀ j,ba c 64 j=false->L4.ρ j=L3.ρ j/\L4.κ j=L3.κ j:=fun j hj=>by simp[L4,hj]
 have Wc:∀ i,pinned i->L4.ρ i=L1.ρ i/\L4.κ i=L1.κ i:=by
  intro i hi
  cases hr:ba c 64 i with
  | true=>simp[L4,hr]
  | false=>
   obtain⟨p1,p2⟩:=hd.jF i hi;obtain⟨p3,p4⟩:=fg (L:=L1) (L2:=L2) hr;obtain⟨p5,p6⟩:=Um i hr;exact⟨p5.trans (p1.trans p3),p6.trans (p2.trans p4)⟩
 have pN:Tr F3 w3 F3 (w3.putObj l (.loop (jA base g))):=Tr.YD k1 (fun _ _ _ h=>by cases h) (fun _ _ h=>by cases h) (fun _ _ _ h=>by cases h);have hk:∀ y,y≠l->(w3.putObj l (.loop (jA base g))).heap[y]?=w3.heap[y]?:=fun y hy=>World.putObj_heap_other hy;have pq:∀ id o,get (g.heap I++ew (dp c) h) id=some o->aS L3 id o->L3.ρ id≠l:=fun id o hi hb e=>(bU.lT (hd.heap.obj id o hi) hb (by rw[e];exact k1)).1 _ rfl;have J9:=hd.heap.n5 (F':=F3) pN (fun b hb=>hd.heap.fresh b (by simpa using hb)) (fun b hb=>⟨hk b (by rintro rfl;exact k3 hb),rfl⟩) (fun id o hi hb=>⟨hk _ (pq id o hi hb),rfl⟩);obtain⟨aaz,_,_,_⟩:=J9.hg;have nG:∀ i o,get (g.heap I) i=some o->get (g.heap I++ew (dp c) h) i=some o:=fun i o hi=>pU hi;have Db:∀ i o,get h i=some o->get (g.heap I++ew (dp c) h) (dp c i)=some (kO (dp c) o):=by
  intro i o hi;obtain⟨n1,_⟩:=aI hi;have Oz:get (g.heap I) (dp c i)=none:=by
   cases hq:get (g.heap I) (dp c i) with
   | none=>rfl
   | some o'=>
    have:=(YN _ (aI hq).1).1;obtain⟨q1,q2,q3⟩:=oA (c:=c) (hB i n1);rw[show ba c 64 (dp c i)=true from by rw[eK];omega]at this;cases this
  refine vA Oz (wR (fun j hj e=>?_) hi);obtain⟨q1,q2,q3⟩:=oA (c:=c) (hB i n1);obtain⟨q4,q5,q6⟩:=oA (c:=c) (hB j hj);omega
 have xV:∀ i o,get h i=some o->(aS L3 (dp c i) (kO (dp c) o)↔aS L2 i o):=fun i o hi=>cE (R:=dp c) (L:=L2) (L':=L3) i o (rS i (hB i (aI hi).1)).2;have M9:∀ i o,get (g.heap I) i=some o->L4.ρ i=L3.ρ i/\L4.κ i=L3.κ i:=fun i o hi=>Um i (YN i (aI hi).1).1;have MA:∀ b,yn (cw c L1 L2) ((I x).1++ew (dp c) h) b->yn L1 (I x).1 b \/ ∃ j p,get h j=some p/\aS L2 j p/\L2.ρ j=b:=by
  rintro b ⟨j,p,hj,jt,e⟩
  cases hq:get (I x).1 j with
  | some p'=>
   have:p'=p:=by
    have:=pU (k:=ew (dp c) h) hq;rw[hj]at this;exact(Option.some.inj this).symm
   subst this;obtain⟨q1,q2⟩:=fg (L:=L1) (L2:=L2) (hC j (aI hq).1).1;exact .inl ⟨j,p',hq,fZ q2 jt,by rw[<- q1];exact e⟩
  | none=>
   have C4:get (ew (dp c) h) j=some p:=by
    have aaS:∀ (k:Heap),get k j=none -> ∀ k',get (k++k') j=get k' j:=by
     intro k
     induction k with
     | nil=>intro _ _;rfl
     | cons kv r ih=>
      obtain⟨u,v⟩:=kv;intro h1 k';simp only[List.cons_append,get]at h1 ⊢;split at h1
      ·cases h1
      ·exact ih h1 k'
    rw[<- aaS _ hq];exact hj
   obtain⟨j',p',WG,rfl,rfl⟩:=jO C4;obtain⟨q3,q4⟩:=kP (c:=c) (L:=L1) (L2:=L2) (hB j' (aI WG).1);exact .inr ⟨j',p',WG,(cE (R:=dp c) (L:=L2) (L':=cw c L1 L2) j' p' q4).1 jt,by rw[<- q3];exact e⟩
 have E1:∀ i o,get (g.heap I) i=some o->aS L4 i o->¬ cx.C (g.st I) (L3.ρ i)/\F3 (L3.ρ i)=0/\L3.ρ i≠l/\(L3.ρ i<w.heap.size->yn L1 (I x).1 (L3.ρ i)) /\ ∀ j p,get h j=some p->aS L2 j p->L3.ρ i≠L2.ρ j:=by
  intro i o hi hb;have JW:aS L3 i o:=fZ (M9 i o hi).2 hb;obtain⟨p1,p2⟩:=hd.heap.own i o (nG i o hi) JW;have er:∀ j p,get h j=some p->aS L2 j p->L3.ρ i≠L2.ρ j:=by
   intro j p hj jt e;obtain⟨n1,_⟩:=aI hj;have:=hd.heap.inj i (dp c j) o _ (nG i o hi) (Db j p hj) JW ((xV j p hj).2 jt) (by rw[(rS j (hB j n1)).1];exact e);have h1:=(YN i (aI hi).1).1;rw[this]at h1;obtain⟨q1,q2,q3⟩:=oA (c:=c) (hB j n1);rw[show ba c 64 (dp c j)=true from by rw[eK];omega]at h1;cases h1
  refine⟨fun h=>p2 (.inl h),p1,pq i o (nG i o hi) JW,fun dh=>?_,er⟩;have:yn (cw c L1 L2) ((I x).1++ew (dp c) h) (L3.ρ i)\/L3.ρ i=l:=Classical.byContradiction fun hn=>p2 (.inr ⟨dh,hn⟩);rcases this with ho|e
  ·rcases MA _ ho with ho|⟨j,p,hj,jt,e⟩
   ·exact ho
   ·exact absurd e.symm (er j p hj jt)
  ·exact absurd e (pq i o (nG i o hi) JW)
 have ow:∀ b,b<w.heap.size->¬ yn (cw c L1 L2) ((I x).1++ew (dp c) h) b->b≠l->¬ cx.C (I x).2 b->(w3.putObj l (.loop (jA base g))).heap[b]?=w.heap[b]?/\F3 b=F b:=fun b hb ho hl hC=>by
  obtain⟨q1,q2⟩:=iL b hb (fun h=>h.elim ho hl) hC;exact⟨(hk b hl).trans q1,q2⟩
 have Wq:∀ b o,w.heap[b]?=some o->((∃ lp,o = .loop lp) \/ ∃ d,o = .deferred d)->¬ yn (cw c L1 L2) ((I x).1++ew (dp c) h) b:=by
  intro b o hb ho hob;have:(∀ lp,o ≠ .loop lp)/\(∀ d,o ≠ .deferred d):=by
   rcases MA b hob with⟨j,p,hj,jt,e⟩|⟨j,p,hj,jt,e⟩
   ·exact bU.lT (i1.obj j p hj) jt (by rw[e];exact hb)
   ·exact bU.lT (hh.obj j p hj) jt (by rw[e];exact hb)
  rcases ho with⟨lp,rfl⟩|⟨d,rfl⟩
  ·exact this.1 _ rfl
  ·exact this.2 _ rfl
 refine⟨L4,L2,?_,Tr.trans tr pN,fun _ _=>⟨rfl,rfl⟩,?_,?_,fun id o hi hb _=>⟨id,o,hi,hb,rfl⟩⟩
 ·have Sx:OI cx I l m r base e1 tmps c tb pρ pκ F0 w0 (g,L4) (w3.putObj l (.loop (jA base g))) F3:=by
   refine⟨⟨aaz,fun b hb=>J9.hP b (.inl hb),J9.fresh,fun i o hi=>?_,fun i o hi hb=>?_,fun i j o p hi hj hb lO e=>?_⟩,⟨World.putObj_heap_same (bP k1),hlC⟩,fun b hb=>?_,fun l0 IV=>?_,fun t v ht=>?_,fun i hi=>?_,Tr.trans i7 (Tr.trans tr pN),A2⟩
   ·refine bU.mono (Tr.refl _ _) i o (fun j hj=>Um j (YN j ((aI hi).2 j (eH j o hj))).1) (M9 i o hi) (fun _=>rfl) (J9.obj i o (nG i o hi))
   ·obtain⟨z1,z2,_⟩:=E1 i o hi hb
    show F3 (L4.ρ i)=0/\¬ cx.C (g.st I) (L4.ρ i);rw[(M9 i o hi).1];exact⟨z2,z1⟩
   ·have e:L4.ρ i=L4.ρ j:=e
    rw[(M9 i o hi).1,(M9 j p hj).1]at e;exact hd.heap.inj i j o p (nG i o hi) (nG j p hj) (fZ (M9 i o hi).2 hb) (fZ (M9 j p hj).2 lO) e
   ·obtain⟨z1,z2⟩:=i3 b hb
    have dh:=bP z1;have xV:b≠l:=by rintro rfl;rw[i2.1]at z1;cases z1
    exact⟨by rw[(ow b dh (Wq b _ z1 (.inr ⟨_,rfl⟩)) xV z2).1];exact z1,EM b dh z2⟩
   ·obtain⟨Y9,⟨z1,z0⟩,z2⟩:=i4 l0 IV
    have dh:=bP z1;have xV:l0≠l:=by rintro rfl;exact Po IV
    exact⟨Y9,⟨by rw[(ow l0 dh (Wq l0 _ z1 (.inl ⟨_,rfl⟩)) xV z2).1];exact z1,z0⟩,EM l0 dh z2⟩
   ·obtain⟨y,hy,E6⟩:=i5 t v ht
    exact⟨y,hy,br.mono (Tr.trans tr pN) v y (fun j hj=>Wc j (hE j (gw ht hj)).1) E6⟩
   ·obtain⟨p1,p2⟩:=Wc i hi
    obtain⟨p3,p4⟩:=i6 i hi;exact⟨p1.trans p3,p2.trans p4⟩
  refine⟨Sx,fun b hb=>?_,J9.fresh,fun i o hi=>?_,fun i o hi hb=>?_,fun i j o p hi hj hb lO e=>hh.inj i j o p hi hj hb lO e⟩
  ·rcases hb with hb|⟨id,o,hi,hb,e⟩|rfl|hb|hb
   ·exact J9.hP b (.inl hb)
   ·have dh:=(hd.heap.obj id o (nG id o hi)).lt (fZ (M9 id o hi).2 hb)
    have e:L4.ρ id=b:=e;rw[(M9 id o hi).1]at e;rw[<- e];simpa using dh
   ·simpa using bP k1
   ·exact bP (Sx.pB b hb).1
   ·obtain⟨Y9,⟨z1,_⟩,_⟩:=Sx.out b hb
    exact bP z1
  ·have h1:=J9.obj _ _ (Db i o hi)
   have h2:=(bU.oc (R:=dp c) (L:=L2) (L':=L3) i o (fun j hj=>rS j (hB j ((aI hi).2 j (eH j o hj)))) (rS i (hB i (aI hi).1))).1 h1;exact bU.iN o (kZ Y6.2 hi) h2
  ·have JW:=(xV i o hi).2 hb
   obtain⟨z1,z2⟩:=hd.heap.own _ _ (Db i o hi) JW;have hp:=(rS i (hB i (aI hi).1)).1;rw[hp]at z1 z2;refine⟨z1,?_⟩;rintro (Mw|⟨id,o',Pe,lO,e⟩|e|hm|hm)
   ·exact z2 (.inl Mw)
   ·obtain⟨_,_,_,_,z⟩:=E1 id o' Pe lO
    have e:L4.ρ id=L2.ρ i:=e;rw[(M9 id o' Pe).1]at e;exact z i o hi hb e
   ·exact pq _ _ (Db i o hi) JW (by rw[hp];exact e)
   ·exact(hh.own i o hi hb).2 (.inr (.inr (.inr (.inl hm))))
   ·exact(hh.own i o hi hb).2 (.inr (.inr (.inr (.inr hm))))
 ·intro b hb hC Mw
  rcases Mw with Mw|⟨id,o',Pe,lO,e⟩|e|hm|hm
  ·exact EM b hb (fun h=>hC (.inl h)) Mw
  ·obtain⟨_,_,_,z,_⟩:=E1 id o' Pe lO
   have e:L4.ρ id=b:=e;rw[(M9 id o' Pe).1]at e;rw[e]at z;exact hC (.inr (.inl (z hb)))
  ·exact hC (.inr (.inr (.inl e)))
  ·exact hC (.inr (.inr (.inr (.inl hm))))
  ·exact hC (.inr (.inr (.inr (.inr hm))))
 ·intro b hb hC ob
  refine ow b hb ?_ (fun e=>hC (.inr (.inr (.inl e)))) (fun h=>hC (.inl h));intro hob;rcases MA b hob with ho|⟨j,p,hj,jt,e⟩
  ·exact hC (.inr (.inl ho))
  ·exact ob j p hj jt e
end
section
variable {P : Program} {T : fA} {ft : FT} {α σ : Type} {Y : Hd σ} {cx : Cx σ} {I : α -> Heap × σ} {l : Nat} {m : List Nat} {r : Option Nat} {base : Go.Loop} {e1 : Env} {tmps : Array Value} {c : Nat} {tb : List Nat} {pρ pκ : Nat -> Nat} {F0 : Nat -> Nat} {w0 : World}
theorem sG(hT:bA P T){ps:Array Tmp}{a b:Code}(Mx:dr P T ft a)(My:dr P T ft b)(hY:cC P Y cx)(Po:r≠some l)
  (nW:base.params=ps) (nr:base.assign=a) (JW:base.body=b) (Wg:base.tmps=tmps) (uu:base.state = .ready/\base.pending=none)
  (A3:∀ p∈ps.toList,p<tmps.size) (htm:tmps.size<=1000000) (Wm:codeOk tmps.size a=true) (la:codeOk tmps.size b=true) (hc:1000000<=c/\c+64<=2000000) (hE:∀ i∈eV e1,pinned i/\ba c 64 i=false) :
  cC P (uK (lr P T ft Y I ps a b e1 c tb)) (fY cx I l m r base e1 tmps c tb pρ pκ F0 w0):=by
 refine⟨?_,fun s w F hh=>hY.laid _ w F hh.heap.hg⟩;intro l' hl args h s Q hy L2 F aT w hh hr;cases hl;obtain⟨g,L1⟩:=s
 cases g with
 | done e hd s=>exact hy.elim
 | go x=>
  obtain⟨⟨hlen,gL⟩,hy⟩:=hy;have uo:=hh.hg;have hi:=uo.B7.1;have M1:jA base (RS.go x:RS α σ)=base:=by
   obtain⟨h1,h2⟩:=uu;cases base;simp only at h1 h2;subst h1;subst h2;rfl
  have hi:w.heap[l]?=some (.loop base):=by rw[<- M1];exact hi
  have Hi:aT.size=base.params.size:=by
   have:=hr.length;rw[nW,<- hlen];simpa using this
  refine⟨base.fn,_,base.assign,base.body,run_yield hi Hi,?_⟩;refine roundIn_of_wpIn (F:=Fence.wide) trivial ?_;have hg:=FQ uo uu A3 htm hc hE hh hr hlen gL;have hYr:cC P Y (yd cx (I x).2 w F (yn (cw c L1 L2) ((I x).1++ew (dp c) h)) l (some base) (cw c L1 L2).ρ (cw c L1 L2).κ):=(mT hY).Ol _ _ _;have dD:((ps.zip aT).foldl (fun t (p,v)=>t.setIfInBounds p v) tmps).size=tmps.size:=by rw[<- Array.foldl_toList,sY]
  rw[nW,nr,JW,Wg];have hA:=eD hT a Mx _ _ hy _ hYr.np (some l) [] _ F _ w hg (by rw[dD];exact Wm);refine wpIn_mono hA fun ex a1 w1 hq=>?_;rcases hq with⟨e',u6,m1,L3,F3,rfl,hk,dX,qd,qc⟩|⟨_,_,_,_,_,_,_,_,hp,_⟩
  case inr=>exact hp.elim
  cases e' with
  | exit i=>exact hk.elim
  | ret=>exact hk.elim
  | normal=>
   obtain⟨lp,⟨q1,q2⟩,_⟩:=dX.lk l rfl;have q2:some base=some lp:=q2;cases q2;refine⟨_,run_beginRound q1 uu.1,?_⟩;obtain⟨iK,AK⟩:=dX.record { base with state:=.busy };have aaA:cC P Y { yd cx (I x).2 w F (yn (cw c L1 L2) ((I x).1++ew (dp c) h)) l (some base) (cw c L1 L2).ρ (cw c L1 L2).κ with B7:=some { base with state:=.busy } }:=hYr.Ol (some { base with state:=.busy }) _ _;have hB:=eD hT b My _ _ hk _ aaA.np (some l) m1 L3 F3 _ _ iK (by rw[qc];show codeOk (Array.size _) b=true;rw[dD];exact la);refine wpIn_mono hB fun ex a2 w2 hq=>?_;rcases hq with⟨Zs,pZ,m2,L4,F4,rfl,j8,EX,Yv,hs3⟩|⟨_,_,_,_,_,_,_,_,hp,_⟩
   case inr=>exact hp.elim
   have trA:Tr F w F4 w2:=Tr.trans qd (Tr.trans AK Yv);have fin:∀ (g:RS α σ) (jump:Option Code) (v:Bool),jA base g={ base with state:=if jump.isNone then .ready else .done,pending:=jump }->v=jump.isNone->Wk pZ ⟨[],g.heap I++ew (dp c) h,g.st I⟩->Ny c tb (g.heap I)=true ->
     (∀ L',Q (.d (.bool v)) h (g,L')) -> ∃ u w',(Instr.endRound l jump).run P w2 = .ok u w' /\ ∃ x_1,Ending.returned u = .returned x_1 /\ ∃ v h' s' L' F',Q v h' s'/\a7 (fY cx I l m r base e1 tmps c tb pρ pκ F0 w0) L' F' h' s' w' /\
      br (fY cx I l m r base e1 tmps c tb pρ pκ F0 w0).yv L' F' w' v x_1/\Tr F w F' w'/\nz L2 L' /\
      (∀ b,b<w.heap.size->¬ (fY cx I l m r base e1 tmps c tb pρ pκ F0 w0).C (.go x,L1) b->¬ (fY cx I l m r base e1 tmps c tb pρ pκ F0 w0).C s' b) /\
      (∀ b,b<w.heap.size->¬ (fY cx I l m r base e1 tmps c tb pρ pκ F0 w0).C (.go x,L1) b->(∀ id o,get h id=some o->aS L2 id o->L2.ρ id≠b)->w'.heap[b]?=w.heap[b]?/\F' b=F b) /\
      (∀ id o,get h' id=some o->aS L' id o->L'.ρ id<w.heap.size -> ∃ pz o',get h pz=some o'/\aS L2 pz o'/\L2.ρ pz=L'.ρ id):=by
    intro g jump v M1 hv Gz A2 hQ;obtain⟨L5,F5,YU,Lq⟩:=Gz _ _ _ _ _ _ _ EX;obtain⟨lp,⟨q3,q4⟩,_⟩:=YU.lk l rfl;have q4:some ({ base with state:=.busy }:Go.Loop)=some lp:=q4;cases q4;have s7:=run_endRound (P:=P) jump q3;have heq:({ ({ base with state:=.busy }:Go.Loop) with state:=if jump.isNone then .ready else .done,pending:=jump }:Go.Loop)=jA base g:=M1.symm;obtain⟨L6,L7,z1,z2,z3,z4,z5,z6⟩:=FR uo Po hc hE hh gL (g:=g) (by cases g<;>rfl) YU A2 (Tr.trans trA Lq);rw[heq]at s7;exact⟨_,_,s7,_,rfl,_,h,(g,L6),L7,F5,hQ L6,z1,by rw[hv];exact rfl,z2,z3,z4,z5,z6⟩
   cases Zs with
   | normal=>
    obtain⟨x',Gz,A2,hQ⟩:=j8;exact fin (.go x') none true rfl rfl Gz A2 hQ
   | ret=>
    obtain⟨hd,s',Gz,A2,hQ⟩:=j8;exact fin (.done .ret hd s') (some .ret) false rfl rfl Gz A2 hQ
   | exit i=>
    obtain⟨hd,s',Gz,A2,hQ⟩:=j8;exact fin (.done (.exit i) hd s') (some (.exit i)) false rfl rfl Gz A2 hQ
end
def tw(c1 c2:Nat)(tb:List Nat)(e:Env)(h:Heap):Bool:=
 nodupB tb&&sb (fun i=>Nat.blt i 1000000) tb&&Nat.ble 1000000 c1&&Nat.ble (c1+tb.length) 2000000&&Nat.ble 1000000 c2&&Nat.ble (c2+64) 2000000&&sb (fun k=>!ba c2 64 (c1+k)) (List.range tb.length) &&
  sb (fun i=>D8 tb i||(Nat.ble 1000000 i&&Nat.blt i 2000000 && !ba c1 tb.length i && !ba c2 64 i)) (eV e) &&
  sb (fun i=>!ba c1 tb.length i) (cB h)
section
variable {c1 : Nat} {tb : List Nat}
theorem vq{k i:Nat}(h:tb[k]?=some i):lD c1 tb (c1+k)=i:=by
 unfold lD;rw[Nat.ble_eq_true_of_le (Nat.le_add_right c1 k),Nat.add_sub_cancel_left,h]
theorem nB{i:Nat}(h:ba c1 tb.length i=false):lD c1 tb i=i:=by
 unfold lD;split
 ·rename_i hb
  have hb:=Nat.le_of_ble_eq_true hb;have:tb[i-c1]?=none:=by
   rw[List.getElem?_eq_none_iff];rcases Nat.lt_or_ge (i-c1) tb.length with dh|AY
   ·rw[show ba c1 tb.length i=true from by rw[eK];omega]at h;cases h
   ·exact AY
  rw[this]
 ·rfl
theorem wu{k i:Nat}(hn:tb.Nodup)(h:tb[k]?=some i):jG c1 tb i=c1+k:=by
 unfold jG
 cases hx:idx tb c1 i with
 | none=>exact absurd (List.mem_of_getElem? h) (Fb hx)
 | some j=>
  obtain⟨h1,h2⟩:=zo hx;have:=vQ hn h2 h;show j=c1+k;omega
theorem je{i:Nat}(h:i∉tb):jG c1 tb i=i:=by
 unfold jG
 cases hx:idx tb c1 i with
 | none=>rfl
 | some j=>exact absurd (List.mem_of_getElem? (zo hx).2) h
end
mutual
theorem ra{R:Nat->Nat}:∀ (v:V) (i:Nat),i∈cQ (aJ (lZ R) v) -> ∃ j∈cQ v,i=R j
 | .d _,i,h=>by cases h
 | .agg cs,i,h=>lS cs i h
 | .tup cs,i,h=>lS cs i h
 | .clo _ cs,i,h=>lS cs i h
 | .ptr j _,i,h=>⟨j,by simp[cQ],by simpa[aJ,lZ,cQ]using h⟩
 | .ep j _ _ _,i,h=>⟨j,by simp[cQ],by simpa[aJ,lZ,cQ]using h⟩
 | .sl j _ _ _,i,h=>⟨j,by simp[cQ],by simpa[aJ,lZ,cQ]using h⟩
 | .mp j,i,h=>⟨j,by simp[cQ],by simpa[aJ,lZ,cQ]using h⟩
 | .it j,i,h=>⟨j,by simp[cQ],by simpa[aJ,lZ,cQ]using h⟩
 | .yld,i,h=>by cases h
 | .unk,i,h=>by cases h
theorem lS{R:Nat->Nat}:∀ (vs:List V) (i:Nat),i∈ck (dz (lZ R) vs) -> ∃ j∈ck vs,i=R j
 | [],i,h=>by cases h
 | v::r,i,h=>by
  rcases List.mem_append.1 (show i∈cQ (aJ (lZ R) v)++ck (dz (lZ R) r) from h) with h|h
  ·obtain⟨j,hj,rfl⟩:=ra v i h
   exact⟨j,List.mem_append.2 (.inl hj),rfl⟩
  ·obtain⟨j,hj,rfl⟩:=lS r i h
   exact⟨j,List.mem_append.2 (.inr hj),rfl⟩
end
section
variable {P : Program} {T : fA} {ft : FT} {α σ : Type} {Y : Hd σ}
theorem kc.wk{g:Operand}{ps:Array Tmp}{a b:Code}{st st':St σ}{K:fu->St σ->Prop}(hw:Wk st st')(h:kc P ft Y g ps a b st' K):kc P ft Y g ps a b st K:=by
 obtain⟨h⟩:=h;exact⟨Gs.wk hw h⟩
theorem GC(hT:bA P T){g:Operand}{ps:Array Tmp}{a b:Code}(Mx:dr P T ft a)(My:dr P T ft b){f:FuncId}{bc:List D}{e:Env}{h:Heap}{s:σ}{K:fu->St σ->Prop}(Pc:aR e g=some (.d (.clo f bc)))
  (c1 c2:Nat) (tb:List Nat) (I:α->Heap×σ) (x0:α) (ns:tw c1 c2 tb e h=true) (hI:I x0=(ew (jG c1 tb) h,s)) (C9:Ny c2 tb (I x0).1=true)
  (hf:∀ L,Lu P (uK (lr P T ft Y I ps a b (nh (jG c1 tb) e) c2 tb)) f (.yld::inj bc) [] (.go x0,L) fun v h' g=>h' = []/\match g.1 with
   | .go x=>K .normal ⟨e,ew (lD c1 tb) (I x).1,(I x).2⟩
   | .done ex hd s'=>K ex ⟨e,ew (lD c1 tb) hd,s'⟩):kc P ft Y g ps a b ⟨e,h,s⟩ K:=by
 constructor;intro cx hY r m L F aa w hg hc;simp only[codeOk,Bool.and_eq_true]at hc;obtain⟨⟨A3,Wm⟩,la⟩:=hc;have A3:∀ p∈ps.toList,p<aa.tmps.size:=fun p hp=>of_decide_eq_true (List.all_eq_true.1 A3 p hp);simp only[tw,Bool.and_eq_true]at ns;obtain⟨⟨⟨⟨⟨⟨⟨⟨k1,k2⟩,k3⟩,k4⟩,k5⟩,k6⟩,k7⟩,k8⟩,k9⟩:=ns;have rT:=gp k1;have E7:∀ i∈tb,i<1000000:=fun i hi=>Nat.le_of_ble_eq_true (dJ k2 i hi);have k3:=Nat.le_of_ble_eq_true k3;have k4:=Nat.le_of_ble_eq_true k4;have k5:=Nat.le_of_ble_eq_true k5;have k6:=Nat.le_of_ble_eq_true k6;have k7:∀ k,k<tb.length->ba c2 64 (c1+k)=false:=fun k hk=>by
  have:=dJ k7 k (List.mem_range.2 hk);simpa using this
 have k8:∀ i∈eV e,i∈tb\/(pinned i/\ba c1 tb.length i=false/\ba c2 64 i=false):=by
  intro i hi;have:=dJ k8 i hi;simp only[Bool.or_eq_true,Bool.and_eq_true,Bool.not_eq_true']at this;exact this.imp fX.1 fun h=>⟨⟨Nat.le_of_ble_eq_true h.1.1.1,Nat.le_of_ble_eq_true h.1.1.2⟩,h.1.2,h.2⟩
 have k9:∀ i∈cB h,ba c1 tb.length i=false:=fun i hi=>by simpa using dJ k9 i hi
 have M5:∀ i∈tb,ba c1 tb.length i=false:=fun i hi=>by
  cases hr:ba c1 tb.length i with
  | false=>rfl
  | true=>rw[eK]at hr;have:=E7 i hi;omega
 have Us:∀ i,ba c1 tb.length i=false->lD c1 tb (jG c1 tb i)=i:=by
  intro i hi;by_cases hm:i∈tb
  ·obtain⟨k,hk⟩:=List.mem_iff_getElem?.1 hm
   rw[wu rT hk,vq hk]
  ·rw[je hm,nB hi]
 have hud:∀ i,i∉tb->jG c1 tb (lD c1 tb i)=i:=by
  intro i hi
  cases hr:ba c1 tb.length i with
  | false=>rw[nB hr,je hi]
  | true=>
   rw[eK]at hr;obtain⟨k,hk⟩:∃ k,i=c1+k:=⟨i-c1,by omega⟩;obtain⟨y,hy⟩:∃ y,tb[k]?=some y:=⟨_,List.getElem?_eq_getElem (by omega)⟩;rw[hk,vq hy,wu rT hy]
 have EW:∀ i∈eV e,ba c1 tb.length i=false:=fun i hi=>(k8 i hi).elim (M5 i) (fun h=>h.2.1);have hE:∀ i∈eV (nh (jG c1 tb) e),pinned i/\ba c2 64 i=false:=by
  have Ha:∀ (e:Env),∀ i∈eV (nh (jG c1 tb) e),∃ j∈eV e,i=jG c1 tb j:=by
   intro e
   induction e with
   | nil=>intro i hi;cases hi
   | cons kv r ih=>
    obtain⟨k,v⟩:=kv;intro i hi;rcases List.mem_append.1 hi with hi|hi
    ·obtain⟨j,hj,rfl⟩:=ra v i hi
     exact⟨j,List.mem_append.2 (.inl hj),rfl⟩
    ·obtain⟨j,hj,rfl⟩:=ih i hi
     exact⟨j,List.mem_append.2 (.inr hj),rfl⟩
  intro i hi;obtain⟨j,hj,rfl⟩:=Ha e i hi;rcases k8 j hj with hm|⟨h1,h2,h3⟩
  ·obtain⟨k,hk⟩:=List.mem_iff_getElem?.1 hm
   have dh:=(List.getElem?_eq_some_iff.1 hk).1;rw[wu rT hk];exact⟨by unfold pinned;omega,k7 k dh⟩
  ·have:j∉tb:=fun hm=>by have:=E7 j hm;unfold pinned at h1;omega
   rw[je this];exact⟨h1,h3⟩
 obtain⟨lc,dV,j6⟩:=hg.aR Pc;have YO:(I x0).1=ew (jG c1 tb) h:=by rw[hI]
 have DX:(I x0).2=s:=by rw[hI]
 refine wpIn_rangeFunc fun fn _=>?_;have enter:∃ (base:Go.Loop) (l:Nat) (mk:List Nat) (W1:World),(Instr.enterLoop fn aa.tmps ps a b r).run P w = .ok (l,mk.map mark) W1/\(base.params=ps/\base.assign=a/\base.body=b/\base.tmps=aa.tmps/\base.state = .ready/\base.pending=none) /\
   W1.heap[l]?=some (.loop base)/\w.heap.size<=l/\(∀ x,x<w.heap.size->W1.heap[x]?=w.heap[x]?)/\Tr F w F W1/\w.heap.size<=W1.heap.size/\mk.Nodup /\ ∀ x∈mk,w.heap.size<=x/\W1.heap[x]?=some (.deferred (some [])):=by
  cases r with
  | none=>
   refine⟨{ state:=.ready,pending:=none,fn,tmps:=aa.tmps,params:=ps,assign:=a,body:=b,defers:=w.heap.size },_,[w.heap.size],_,run_enterLoop_outer fn aa.tmps ps a b,⟨rfl,rfl,rfl,rfl,rfl,rfl⟩,?_,by omega,fun x hx=>?_,Tr.trans (Tr.alloc hg.heap.fresh _) (Tr.alloc (fun b hb=>hg.heap.fresh b (by simp at hb;omega)) _),by simp;omega,by simp,fun x hx=>?_⟩
   ·have:=World.alloc_heap_new (w.alloc (.deferred (some []))) (.loop { state:=.ready,pending:=none,fn,tmps:=aa.tmps,params:=ps,assign:=a,body:=b,defers:=w.heap.size })
    rwa [World.size_alloc]at this
   ·rw[heap_alloc_old _ _ (by simp;omega),heap_alloc_old _ _ hx]
   ·rw[List.mem_singleton]at hx
    subst hx;exact⟨Nat.le_refl _,by rw[heap_alloc_old _ _ (by simp)];exact World.alloc_heap_new w _⟩
  | some l0=>
   obtain⟨lp,⟨q1,_⟩,_⟩:=hg.lk l0 rfl;refine⟨{ state:=.ready,pending:=none,fn,tmps:=aa.tmps,params:=ps,assign:=a,body:=b,defers:=lp.defers },_,[],_,run_enterLoop_inner q1 fn aa.tmps ps a b,⟨rfl,rfl,rfl,rfl,rfl,rfl⟩,World.alloc_heap_new w _,Nat.le_refl _,fun x hx=>heap_alloc_old _ _ hx,Tr.alloc hg.heap.fresh _,by simp,List.nodup_nil,fun x hx=>by cases hx⟩
 obtain⟨base,l,mk,W1,qa,⟨nW,nr,JW,Wg,SD,SE⟩,hl,hlw,hold,qd,Tv,vH,Rf⟩:=enter;have dX:=hg.Hx qd (fun x hx=>⟨hold x hx,rfl⟩) (fun x hx=>hg.heap.fresh x (Nat.le_trans Tv hx));have Po:r≠some l:=by
  rintro rfl;obtain⟨lp,⟨q1,_⟩,_⟩:=hg.lk l rfl;have:=bP q1;omega
 let L1:Loc:=⟨fun j=>L.ρ (lD c1 tb j),fun j=>L.κ (lD c1 tb j)⟩
 have Sy:∀ i,ba c1 tb.length i=false->L1.ρ (jG c1 tb i)=L.ρ i/\L1.κ (jG c1 tb i)=L.κ i:=fun i hi=>by
  show L.ρ (lD c1 tb (jG c1 tb i))=L.ρ i/\L.κ (lD c1 tb (jG c1 tb i))=L.κ i;rw[Us i hi];exact⟨rfl,rfl⟩
 have Oy:∀ x,w.heap.size<=x->¬ cx.C s x:=fun x hx hC=>by have:=hg.heap.hP x hC;omega
 have uu:jA base (RS.go x0:RS α σ)=base:=by
  cases base;simp only at SD SE;subst SD;subst SE;rfl
 have uo:OI cx I l (mk++m) r base (nh (jG c1 tb) e) aa.tmps c2 tb L1.ρ L1.κ F W1 (.go x0,L1) W1 F:=by
  refine⟨?_,⟨by rw[uu];exact hl,by show ¬ cx.C (I x0).2 l;rw[DX];exact Oy l hlw⟩,fun x hx=>?_,fun l0 h0=>?_,fun t v ht=>?_,fun _ _=>⟨rfl,rfl⟩,Tr.refl F W1,C9⟩
  ·show a7 cx L1 F (I x0).1 (I x0).2 W1
   rw[YO,DX];exact dX.heap.oc fun i hi=>Sy i (k9 i hi)
  ·show _/\¬ cx.C (I x0).2 x
   rw[DX];rcases List.mem_append.1 hx with hx|hx
   ·exact⟨(Rf x hx).2,Oy x (Rf x hx).1⟩
   ·exact dX.pB x hx
  ·show ∃ lp,_/\¬ cx.C (I x0).2 l0
   rw[DX];exact dX.lk l0 h0
  ·simp only[nh,bY]at ht
   cases h0:get e t with
   | none=>simp[h0]at ht
   | some v0=>
    simp[h0]at ht;subst ht;obtain⟨x,hx,hr⟩:=dX.env t v0 h0;exact⟨x,hx,(br.oc (R:=jG c1 tb) (L:=L) (L':=L1) v0 x fun i hi=>Sy i (EW i (gw h0 hi))).2 hr⟩
 have EO:a7 (fY cx I l (mk++m) r base (nh (jG c1 tb) e) aa.tmps c2 tb L1.ρ L1.κ F W1) L1 F [] (.go x0,L1) W1:=by
  refine⟨uo,fun x hx=>?_,dX.heap.fresh,(fun _ _ h=>by cases h),(fun _ _ h=>by cases h),(fun _ _ _ _ h=>by cases h)⟩;rcases hx with hx|⟨id,o,hi,hb,hx⟩|hx|hx|hx
  ·exact uo.heap.hP x hx
  ·rw[<- hx];exact(uo.heap.obj id o hi).lt hb
  ·rw[hx];exact bP hl
  ·exact bP (uo.pB x hx).1
  ·obtain⟨lp,⟨q1,_⟩,_⟩:=uo.out x hx;exact bP q1
 have eh:=(hf L1).run _ (sG hT Mx My hY Po nW nr JW Wg ⟨SD,SE⟩ A3 hg.ve Wm la ⟨k5,k6⟩ hE) L1 F (#[.func (.yield l) #[] #[]]++lc) W1 EO (by
  show aq (some l) L1 F W1 (.yld::inj bc) _;refine⟨.func (.yield l) #[] #[],lc.toList,by simp,⟨l,rfl,rfl⟩,aq.inj.2 (bt.mono qd bc _ j6)⟩)
 refine⟨l,mk.map mark,W1,{ target:=.fn (.func f) lc,args:=#[.func (.yield l) #[] #[]] },W1,f,#[.func (.yield l) #[] #[]]++lc,W1,qa,?_,fun _ _=>trivial,?_,(fun h=>by cases h),?_⟩
 ·simp only[resolve,dV]
  simp[go_sem]
 ·simp[invoke,go_sem,(hf L1).enter]
 refine(gZ eh).mono ?_;rintro en w' ⟨x,rfl,v,h',gs,L',F',⟨rfl,hK⟩,hH,hv,tr,jF⟩;obtain⟨gg,L2⟩:=gs;obtain⟨i1,i2,i3,i4,i5,i6,i7,i8⟩:=hH.hg;have hnb:(jA base gg).state ≠ .busy:=by cases gg<;>(intro h;cases h)
 have s7:=run_endLoop (P:=P) i2.1 hnb;obtain⟨W4,SA⟩:∃ W4,W4=w'.putObj l (.loop { jA base gg with state:=.exhausted }):=⟨_,rfl⟩;rw[<- SA]at s7;have Lq:Tr F' w' F' W4:=by rw[SA];exact Tr.YD i2.1 (fun _ _ _ h=>by cases h) (fun _ _ h=>by cases h) (fun _ _ _ h=>by cases h)
 have Ox:∀ y,y≠l->W4.heap[y]?=w'.heap[y]?:=fun y hy=>by rw[SA];exact World.putObj_heap_other hy
 have h4:=i1.n5 Lq (fun b hb=>i1.fresh b (Nat.le_trans Lq.size hb)) (fun b hb=>⟨Ox b (by rintro rfl;exact i2.2 hb),rfl⟩) (fun id o hi hb=>⟨Ox _ (fun e=>(bU.lT (i1.obj id o hi) hb (by rw[e];exact i2.1)).1 _ rfl),rfl⟩)
 let L3:Loc:=⟨fun i=>if i∈tb then L2.ρ (jG c1 tb i) else if ba c1 tb.length i then cx.pρ i else L2.ρ i,fun i=>if i∈tb then L2.κ (jG c1 tb i) else if ba c1 tb.length i then cx.pκ i else L2.κ i⟩
 have Q7:∀ i,ba c1 tb.length i=false->L3.ρ i=L2.ρ (jG c1 tb i)/\L3.κ i=L2.κ (jG c1 tb i):=by
  intro i hi;by_cases hm:i∈tb
  ·simp[L3,hm]
  ·simp[L3,hm,hi,je hm]
 have O3:∀ i,i∉tb->L3.ρ (lD c1 tb i)=L2.ρ i/\L3.κ (lD c1 tb i)=L2.κ i:=by
  intro i hi;have:ba c1 tb.length (lD c1 tb i)=false:=by
   cases hr:ba c1 tb.length i with
   | false=>rw[nB hr];exact hr
   | true=>
    rw[eK]at hr;obtain⟨k,hk⟩:∃ k,i=c1+k:=⟨i-c1,by omega⟩;obtain⟨y,hy⟩:∃ y,tb[k]?=some y:=⟨_,List.getElem?_eq_getElem (by omega)⟩;rw[hk,vq hy];exact M5 y (List.mem_of_getElem? hy)
  obtain⟨q1,q2⟩:=Q7 _ this;rw[hud i hi]at q1 q2;exact⟨q1,q2⟩
 have G6:=ri i8;have uy:Good cx r (mk++m) L3 F' ⟨e,ew (lD c1 tb) (gg.heap I),gg.st I⟩ { aa with defers:=mk.map mark++aa.defers } W4:=by
  refine⟨h4.oc fun i hi=>O3 i (G6 i hi).2,fun t v ht=>?_,?_,fun x hx=>?_,?_,fun l0 h0=>?_,fun i hi=>?_,hg.ve⟩
  ·obtain⟨x,hx,hr⟩:=i5 t (aJ (lZ (jG c1 tb)) v) (by
    have ht:get e t=some v:=ht;simp only[nh,bY,ht];rfl)
   refine⟨x,hx,br.mono Lq v x (fun _ _=>⟨rfl,rfl⟩) ((br.oc (R:=jG c1 tb) (L:=L3) (L':=L2) v x fun i hi=>?_).1 hr)⟩;obtain⟨q1,q2⟩:=Q7 i (EW i (gw ht hi));exact⟨q1.symm,q2.symm⟩
  ·show mk.map mark++aa.defers=(mk++m).map mark++cx.base
   rw[hg.tZ,List.map_append,List.append_assoc]
  ·obtain⟨q1,q2⟩:=i3 x hx
   exact⟨by rw[Ox x (by rintro rfl;rw[i2.1]at q1;cases q1)];exact q1,q2⟩
  ·rw[List.nodup_append]
   refine⟨vH,hg.xe,fun x hx y hy e=>?_⟩;have h1:=(Rf x hx).1;have h2:=bP (hg.pB y hy).1;omega
  ·obtain⟨lp,⟨q1,q2⟩,q3⟩:=i4 l0 h0
   exact⟨lp,⟨by rw[Ox l0 (by rintro rfl;exact Po h0)];exact q1,q2⟩,q3⟩
  ·have hm:i∉tb:=fun hm=>by have:=E7 i hm;unfold pinned at hi;omega
   cases hr:ba c1 tb.length i with
   | true=>simp[L3,hm,hr]
   | false=>
    obtain⟨q1,q2⟩:=Q7 i hr;rw[je hm]at q1 q2;obtain⟨q3,q4⟩:=i6 i hi;have q5:L1.ρ i=L.ρ i/\L1.κ i=L.κ i:=by
     show L.ρ (lD c1 tb i)=L.ρ i/\L.κ (lD c1 tb i)=L.κ i;rw[nB hr];exact⟨rfl,rfl⟩
    obtain⟨q6,q7⟩:=hg.jF i hi;exact⟨q1.trans (q3.trans (q5.1.trans q6)),q2.trans (q4.trans (q5.2.trans q7))⟩
 have QC:Tr F w F' W4:=Tr.trans qd (Tr.trans tr Lq);refine⟨_,W4,s7,?_⟩
 cases gg with
 | go x=>
  exact .inl ⟨.normal,_,mk++m,L3,F',rfl,hK,uy,QC,rfl⟩
 | done ex hd s'=>
  cases ex with
  | normal=>exact wpIn_skip (.inl ⟨.normal,_,mk++m,L3,F',rfl,hK,uy,QC,rfl⟩)
  | ret=>exact wpIn_ret (.inl ⟨.ret,_,mk++m,L3,F',rfl,hK,uy,QC,rfl⟩)
  | exit i=>exact wpIn_exit (.inl ⟨.exit i,_,mk++m,L3,F',rfl,hK,uy,QC,rfl⟩)
end
end Go.PX
namespace Go.PX
open Go.RowKit
def iterate{γ:Type}(Y:Hd γ):List (List V×Heap)->γ->(γ->Prop)->Prop
 | [],g,Q=>Q g
 | (args,h)::r,g,Q=>Y.y args h g fun v h' g'=>h'=h/\((v = .d (.bool true)/\iterate Y r g' Q)\/(v = .d (.bool false)/\Q g'))
def Yields(P:Program)(f:FuncId)(bc:List D)(l:List (List V×Heap)):Prop:=
 ∀ {γ:Type} (Y:Hd γ) (g:γ) (Q:γ->Prop),iterate Y l g Q->Lu P Y f (.yld::inj bc) [] g fun v h' g'=>h' = []/\Q g'
theorem ko{γ:Type}{Y:Hd γ}:∀ (l:List (List V×Heap)),iterate Y.np l=iterate Y l
 | []=>rfl
 | x::r=>by
  funext g Q
  show(Y.y x.1 x.2 g fun v h' g'=>h'=x.2/\((v = .d (.bool true)/\iterate Y.np r g' Q)\/(v = .d (.bool false)/\Q g')))=_;rw[ko r];rfl
theorem iterate.np{γ:Type}{Y:Hd γ}{l:List (List V×Heap)}{g:γ}{Q:γ->Prop}(h:iterate Y l g Q):iterate Y.np l g Q:=by rw[ko];exact h
section
variable {P : Program} {T : fA} {ft : FT} {α σ : Type} {Y : Hd σ}
def NB(tb:List Nat)(h:Heap):Heap:=match tb with
 | []=>[]
 | i::r=>match get h i with
  | some o=>(i,o)::NB r h
  | none=>NB r h
theorem uV{h:Heap}{k:Nat}{v:Obj}:∀ {tb:List Nat},get (NB tb h) k=some v->get h k=some v
 | [],hk=>by cases hk
 | i::r,hk=>by
  rw[NB]at hk;split at hk
  ·rename_i o ho
   rw[fW]at hk;split at hk
   ·rename_i e
    subst e;rw[ho];exact hk
   ·exact uV hk
  ·exact uV hk
def KD(tb:List Nat)(z:Heap):Heap->Heap
 | []=>z
 | (i,o)::r=>match tb.any fun k=>Nat.beq k i with
  | true=>KD tb z r
  | false=>(i,o)::KD tb z r
theorem FA{tb:List Nat}{z:Heap}{k:Nat}:∀ {h:Heap},get (KD tb z h) k=if (tb.any fun i=>Nat.beq i k)=true then get z k else (match get h k with
 | some v=>some v
 | none=>get z k)
 | []=>by simp[KD,get]
 | (i,o)::r=>by
  have ih:=FA (tb:=tb) (z:=z) (k:=k) (h:=r);rw[KD];split
  ·rename_i hi
   rw[ih,fW];by_cases hk:(tb.any fun j=>Nat.beq j k)=true
   ·rw[if_pos hk,if_pos hk]
   ·rw[if_neg hk,if_neg hk,if_neg (fun e=>hk (by rw[e];exact hi))]
  ·rename_i hi
   rw[fW,fW];by_cases e:k=i
   ·subst e
    rw[if_pos rfl,if_pos rfl,if_neg (by rw[hi];simp)]
   ·rw[if_neg e,if_neg e,ih]
def Nz(tb:List Nat)(h:Heap):Heap:=KD tb (NB tb h) h
theorem NA{h:Heap}{k:Nat}{v:Obj}{tb:List Nat}(hk:get (Nz tb h) k=some v):get h k=some v:=by
 unfold Nz at hk;rw[FA]at hk;split at hk
 ·exact uV hk
 ·split at hk
  ·rename_i he;rw[he];exact hk
  ·exact uV hk
theorem Wk.ord{e:Env}{h:Heap}{s:σ}(tb:List Nat):Wk (⟨e,h,s⟩:St σ) ⟨e,Nz tb h,s⟩:=
 fun cx r m L F a w hg=>⟨L,F,hg.sub (fun _ _ hv=>hv) (fun _ _ hv=>NA hv),Tr.refl F w⟩
theorem CC(hT:bA P T){g:Operand}{ps:Array Tmp}{a b:Code}(Mx:dr P T ft a)(My:dr P T ft b){f:FuncId}{bc:List D}{e:Env}{h:Heap}{s:σ}{K:fu->St σ->Prop}(Pc:aR e g=some (.d (.clo f bc)))
  (c1 c2:Nat) (tb:List Nat) {β:Type} {items:List β} {arg:β->List V} {hp:β->Heap} (hf:Yields P f bc (items.map fun b=>(arg b,hp b)))
  (I:α->Heap×σ) (J:List β->α->Prop) (x0:α) (ns:tw c1 c2 tb e h=true) (hI:I x0=(ew (jG c1 tb) h,s)) (C9:Ny c2 tb (I x0).1=true) (Wa:J items x0)
  (round:∀ it rest x,J (it::rest) x -> ∀ (Q:V->Heap->RS α σ->Prop),(∀ x',J rest x'->Q (.d (.bool true)) (hp it) (.go x'))->(∀ ex hd s',K ex ⟨e,ew (lD c1 tb) hd,s'⟩->Q (.d (.bool false)) (hp it) (.done ex hd s')) ->
   (lr P T ft Y I ps a b (nh (jG c1 tb) e) c2 tb).y (arg it) (hp it) (.go x) Q)
  (fin:∀ x,J [] x->K .normal ⟨e,ew (lD c1 tb) (I x).1,(I x).2⟩):kc P ft Y g ps a b ⟨e,h,s⟩ K:=by
 refine GC hT Mx My Pc c1 c2 tb I x0 ns hI C9 fun L=>hf (uK (lr P T ft Y I ps a b (nh (jG c1 tb) e) c2 tb)) (RS.go x0,L) (fun g=>match g.1 with
   | .go x=>K .normal ⟨e,ew (lD c1 tb) (I x).1,(I x).2⟩
   | .done ex hd s'=>K ex ⟨e,ew (lD c1 tb) hd,s'⟩) ?_
 have key:∀ (l:List β) (x:α) (L:Loc),J l x->iterate (uK (lr P T ft Y I ps a b (nh (jG c1 tb) e) c2 tb)) (l.map fun b=>(arg b,hp b))  (RS.go x,L) (fun g=>match g.1 with
   | .go x=>K .normal ⟨e,ew (lD c1 tb) (I x).1,(I x).2⟩
   | .done ex hd s'=>K ex ⟨e,ew (lD c1 tb) hd,s'⟩):=by
  intro l
  induction l with
  | nil=>exact fun x L hj=>fin x hj
  | cons it rest ih=>
   intro x L hj
   exact round it rest x hj (fun v h' g'=>∀ L',h'=hp it/\((v = .d (.bool true)/\iterate (uK (lr P T ft Y I ps a b (nh (jG c1 tb) e) c2 tb)) (rest.map fun b=>(arg b,hp b)) (g',L') (fun g=>match g.1 with
   | .go x=>K .normal ⟨e,ew (lD c1 tb) (I x).1,(I x).2⟩
   | .done ex hd s'=>K ex ⟨e,ew (lD c1 tb) hd,s'⟩))\/(v = .d (.bool false)/\(match g' with
   | .go x=>K .normal ⟨e,ew (lD c1 tb) (I x).1,(I x).2⟩
   | .done ex hd s'=>K ex ⟨e,ew (lD c1 tb) hd,s'⟩)))) (fun x' C4 L'=>⟨rfl,.inl ⟨rfl,ih x' L' C4⟩⟩) (fun ex hd s' hk L'=>⟨rfl,.inr ⟨rfl,hk⟩⟩)
 exact key items x0 L Wa
theorem gl(hT:bA P T){g:Operand}{ps:Array Tmp}{a b:Code}(Mx:dr P T ft a)(My:dr P T ft b){f:FuncId}{bc:List D}{e:Env}{h:Heap}{s:σ}{K:fu->St σ->Prop}(Pc:aR e g=some (.d (.clo f bc)))
  (c1 c2:Nat) (tb:List Nat) {β:Type} {items:List β} {arg:β->List V} {hp:β->Heap} (hf:Yields P f bc (items.map fun b=>(arg b,hp b)))
  (I:α->Heap×σ) (J:List β->α->Prop) (x0:α) (ns:tw c1 c2 tb e (Nz tb h)=true) (hI:I x0=(ew (jG c1 tb) (Nz tb h),s)) (C9:Ny c2 tb (I x0).1=true) (Wa:J items x0)
  (round:∀ it rest x,J (it::rest) x -> ∀ (Q:V->Heap->RS α σ->Prop),(∀ x',J rest x'->Q (.d (.bool true)) (hp it) (.go x'))->(∀ ex hd s',K ex ⟨e,ew (lD c1 tb) hd,s'⟩->Q (.d (.bool false)) (hp it) (.done ex hd s')) ->
   (lr P T ft Y I ps a b (nh (jG c1 tb) e) c2 tb).y (arg it) (hp it) (.go x) Q)
  (fin:∀ x,J [] x->K .normal ⟨e,ew (lD c1 tb) (I x).1,(I x).2⟩):kc P ft Y g ps a b ⟨e,h,s⟩ K:=kc.wk (Wk.ord tb) (CC hT Mx My Pc c1 c2 tb hf I J x0 ns hI C9 Wa round fin)
theorem LA{e:Env}{h:Heap}{s:σ}{d:Option Nat}{ds:List D}{r:List (List V×Heap)}{Q:σ->Prop}(hit:iterate Y ((inj ds,[])::r) s Q){args:List V}(hv:args=inj ds)(hd:Nat.ble (d.getD 0) 10000=true){K:St σ->Prop}
  (kt:∀ s',iterate Y r s' Q->bz (bw d (.d (.bool true))) e h fun e h=>K ⟨e,h,s'⟩) (kf:∀ s',Q s'->bz (bw d (.d (.bool false))) e h fun e h=>K ⟨e,h,s'⟩):GD P Y ⟨e,h,s⟩ d args K:=by
 have hB:∀ b:Bool,fU [] d (.d (.bool b)) []=true:=by
  intro b;simp only[fU,Bool.and_eq_true];refine⟨⟨⟨⟨⟨⟨⟨⟨⟨rfl,rfl⟩,rfl⟩,rfl⟩,rfl⟩,rfl⟩,rfl⟩,hd⟩,rfl⟩,?_⟩;cases d<;>rfl
 have Ha:∀ (R:Nat->Nat) (l:List D),sq R (inj l)=inj l:=by
  intro R l
  induction l with
  | nil=>rfl
  | cons c r ih=>show aJ (lZ R) (.d c)::dz (lZ R) (inj r) = .d c::inj r;rw[show dz (lZ R) (inj r)=inj r from ih];rfl
 refine DT [] hit (by rw[hv];exact Ha _ _) rfl rfl rfl ?_;rintro v h1 s' ⟨rfl,hv⟩;rcases hv with⟨rfl,hi⟩|⟨rfl,hq⟩
 ·refine⟨hB true,?_⟩
  have:=kt s' hi;rw[cO s']at this;have hs:(aL (⟨e,h,s'⟩:St σ) (bw d (.d (.bool true)))).s=s':=dG _ _;show K (aL ⟨e,h,s'⟩ (bw d (.d (.bool true))));generalize aL (⟨e,h,s'⟩:St σ) (bw d (.d (.bool true)))=st at this hs;obtain⟨e1,h1,s1⟩:=st;simp only at hs;subst hs;exact this
 ·refine⟨hB false,?_⟩
  have:=kf s' hq;rw[cO s']at this;have hs:(aL (⟨e,h,s'⟩:St σ) (bw d (.d (.bool false)))).s=s':=dG _ _;show K (aL ⟨e,h,s'⟩ (bw d (.d (.bool false))));generalize aL (⟨e,h,s'⟩:St σ) (bw d (.d (.bool false)))=st at this hs;obtain⟨e1,h1,s1⟩:=st;simp only at hs;subst hs;exact this
end
end Go.PX
namespace Go.PX
theorem aG{α:Type}{l:List α}{f:α->List D}{i:Nat}{x:α}{K:List D->Prop}(hx:l[i]?=some x)(k:K (f x)):Bp (l.map f) (i:Int) K:=
 aU (f x) (by simp[hx]) k
theorem aC{g:Nat->Option DO}{v:V}{r:List V}{d:D}{l:List D}(h1:dP g v=some d)(h2:cS g r=some l):cS g (v::r)=some (d::l):=by
 rw[cS,h1,h2]
theorem cH{h:Heap}{k id sz n:Nat}{es:List (List D)}(hg:get h id=some (.arr sz (.dd es)))(hn:n=es.length):dP (fp h (k+1)) (.sl id sz 0 n)=some (.vs es):=by
 have h1:Nat.beq sz sz=true:=Nat.beq_refl sz;have h2:Nat.ble (0+es.length) es.length=true:=Nat.ble_eq_true_of_le (by omega);subst hn;simp only[dP,fp,hg,h1,h2,List.drop_zero,List.take_length]
section
variable {P : Program} {T : fA} {σ : Type} {Y : Hd σ}
theorem OH{ft:FT}{c:Code}{α:Type}(I:α->St σ)(Pr:α->Prop)(μ:α->Nat)(x0:α){st:St σ}{K:fu->St σ->Prop}(h0:Wk st (I x0))(p0:Pr x0)
  (round:∀ x,Pr x->Gs P Y c (I x) fun e st'=>match e with
   | .normal=>∃ y,μ y<μ x/\Pr y/\Wk st' (I y)
   | e=>K e st'):Ec P ft Y c st K:=by
 refine⟨Gs.wk h0 ?_⟩;intro cx hY r m0 L0 F0 a w hg hc;have hc:codeOk a.tmps.size c=true:=hc
 let J:Act->World->α->Prop:=fun a' w' x=>Pr x /\ ∃ m L F,Good cx r m L F (I x) a' w'/\Tr F0 w F w'/\a'.tmps.size=a.tmps.size
 let M:Act->World->Nat:=fun a' w'=>Cc fun n=>∃ x,J a' w' x/\μ x=n
 refine wpIn_loop (fun a' w'=>∃ x,J a' w' x) M ⟨x0,p0,m0,L0,F0,hg,Tr.refl F0 w,rfl⟩ fun a' w' hJ=>?_;obtain⟨x,⟨hp,m,L,F,dN,tr,hs⟩,hx⟩:=Cd (p:=fun n=>∃ x,J a' w' x/\μ x=n) (by obtain⟨x,hx⟩:=hJ;exact⟨μ x,x,hx,rfl⟩);refine wpIn_mono (round x hp cx hY r m L F a' w' dN (by rw[hs];exact hc)) fun ex QI xP hq=>?_;rcases hq with⟨e',u6,m1,L1,F1,rfl,h2,h3,h4,h5⟩|Tc
 case inr=>
  have Td:=Tc;obtain⟨v,pe,ph,ps,m',L',F',rfl,_⟩:=Tc;exact .inr (Td.trans tr hs)
 cases e' with
 | normal=>
  obtain⟨y,hy,hpy,Gz⟩:=h2;obtain⟨L2,F2,iK,AK⟩:=Gz cx r m1 L1 F1 QI xP h3;have Wb:J QI xP y:=⟨hpy,m1,L2,F2,iK,Tr.trans tr (Tr.trans h4 AK),h5.trans hs⟩;refine⟨⟨y,Wb⟩,?_⟩;have:M QI xP<=μ y:=FZ ⟨y,Wb,rfl⟩;have hx:μ x=M a' w':=hx;omega
 | exit i=>exact .inl ⟨.exit i,u6,m1,L1,F1,rfl,h2,h3,Tr.trans tr h4,h5.trans hs⟩
 | ret=>exact .inl ⟨.ret,u6,m1,L1,F1,rfl,h2,h3,Tr.trans tr h4,h5.trans hs⟩
theorem Gs.mono{c:Code}{st:St σ}{K1 K2:fu->St σ->Prop}(hw:Gs P Y c st K1)(h:∀ e st,K1 e st->K2 e st):Gs P Y c st K2:=by
 intro cx hY r m L F a w hg hc;refine wpIn_mono (hw cx hY r m L F a w hg hc) fun ex a' w' hq=>?_;rcases hq with⟨e',st',m',L',F',h1,h2,h3⟩|hp
 ·exact .inl ⟨e',st',m',L',F',h1,h _ _ h2,h3⟩
 ·exact .inr hp
theorem bB(hT:bA P T){ft:FT}{c:Code}(hD:dr P T ft c){α β:Type}(l:List α)(I:Nat->β->St σ)(J:Nat->List α->β->Prop)(x0:β){st:St σ}{K:fu->St σ->Prop}(h0:Wk st (I 0 x0))(j0:J 0 l x0)
  (round:∀ (i:Nat) (x:α) (r:List α) (acc:β),l[i]?=some x->i<l.length->i+1+r.length=l.length->J i (x::r) acc->Ct P T ft Y c (I i acc) fun e st'=>match e with
   | .normal=>∃ OK,J (i+1) r OK/\Wk st' (I (i+1) OK)
   | e=>K e st')
  (fin:∀ acc,J l.length [] acc->Ct P T ft Y c (I l.length acc) fun e st'=>match e with
   | .normal=>False
   | e=>K e st'):Ec P ft Y c st K:=by
 refine OH (α:=Nat×β) (fun p=>I p.1 p.2) (fun p=>p.1<=l.length/\J p.1 (l.drop p.1) p.2) (fun p=>l.length+1-p.1) (0,x0) h0 ⟨Nat.zero_le _,by simpa using j0⟩ ?_;rintro ⟨i,acc⟩ ⟨hi,hj⟩;simp only at hi hj ⊢;by_cases dh:i<l.length
 ·have hd:l.drop i=l[i]::l.drop (i+1):=List.drop_eq_getElem_cons dh
  rw[hd]at hj;refine Gs.mono (eD hT c hD _ _ (round i l[i] (l.drop (i+1)) acc (List.getElem?_eq_getElem dh) dh (by simp;omega) hj)) fun e st' hk=>?_
  cases e with
  | normal=>
   obtain⟨OK,h1,h2⟩:=hk;exact⟨(i+1,OK),by simp only;omega,⟨dh,h1⟩,h2⟩
  | exit i=>exact hk
  | ret=>exact hk
 ·have he:i=l.length:=by omega
  subst he;rw[List.drop_length]at hj;refine Gs.mono (eD hT c hD _ _ (fin acc hj)) fun e st' hk=>?_
  cases e with
  | normal=>exact hk.elim
  | exit i=>exact hk
  | ret=>exact hk
end
end Go.PX
namespace Go.PX
open Go.RowKit
section
variable {σ : Type}
theorem Wk.B9{e:Env}{h:Heap}{s:σ}(id:Nat){o:Obj}(o':Obj)(hg:get h id=some o)(hr:∀ (yv:Option Nat) (L:Loc) (F:Nat->Nat) (w:World),bU yv L F w id o->bU yv L F w id o')(hb:∀ L,aS L id o'->aS L id o) :
  Wk (⟨e,h,s⟩:St σ) ⟨e,put h id o',s⟩:=by
 intro cx r m L F a w hh;have key:∀ i q,get (put h id o') i=some q->(i=id/\q=o')\/get h i=some q:=by
  intro i q hi;rw[e6]at hi;split at hi
  ·rename_i e1;cases hi;exact .inl ⟨e1,rfl⟩
  ·exact .inr hi
 refine⟨L,F,⟨⟨hh.heap.hg,hh.heap.hP,hh.heap.fresh,fun i q hi=>?_,fun i q hi iU=>?_,fun i j q p hi hj mf jt e=>?_⟩,hh.env,hh.tZ,hh.pB,hh.xe,hh.lk,hh.jF,hh.ve⟩,Tr.refl F w⟩
 ·rcases key i q hi with⟨rfl,rfl⟩|hi
  ·exact hr _ _ _ _ (hh.heap.obj i o hg)
  ·exact hh.heap.obj i q hi
 ·rcases key i q hi with⟨rfl,rfl⟩|hi
  ·exact hh.heap.own i o hg (hb L iU)
  ·exact hh.heap.own i q hi iU
 ·rcases key i q hi with⟨e1,e2⟩|AZ<;>rcases key j p hj with⟨e3,e4⟩|Rc
  ·rw[e1,e3]
  ·subst e1;subst e2
   exact hh.heap.inj _ _ _ _ hg Rc (hb L mf) jt e
  ·subst e3;subst e4
   exact hh.heap.inj _ _ _ _ AZ hg mf (hb L jt) e
  ·exact hh.heap.inj _ _ _ _ AZ Rc mf jt e
theorem Wk.shrink{e:Env}{h:Heap}{s:σ}(id n:Nat){sz:Nat}{es:List (List D)}(hg:get h id=some (.arr sz (.dd es))):Wk (⟨e,h,s⟩:St σ) ⟨e,put h id (.arr sz (.dd (es.take n))),s⟩:=by
 refine Wk.B9 id _ hg (fun yv L F w h=>?_) fun L hb=>hb;obtain⟨h1,h2,h3⟩:=h;have hlen:dE sz (bg (es.take n)):=by
  intro x hx;rw[cc,List.mem_map]at hx;obtain⟨y,hy,rfl⟩:=hx;exact h2 _ (by rw[show(bx.dd es).bJ=bg es from rfl,cc];exact List.mem_map_of_mem (List.mem_of_mem_take hy))
 refine⟨h1,hlen,?_⟩;rcases h3 with⟨h3,h4⟩|⟨c,T,hc,k1,k2,k3⟩
 ·left
  have:es = []:=by
   have:bg es = []:=h3
   cases es with
   | nil=>rfl
   | cons a l=>cases this
  subst this;exact⟨by simp[bx.bJ,bg],h4⟩
 ·right
  have e1:(bx.dd es).bJ=bg es:=rfl;have e2:(bx.dd (es.take n)).bJ=(bg es).take n:=by show bg (es.take n)=_;rw[cc,cc,List.map_take]
  have e3:((bg es).take n).length<=(bg es).length:=by simp;omega
  rw[e1]at k2 k3;refine⟨c,T,hc,k1,?_,?_⟩
  ·rw[e2];exact Nat.le_trans (Nat.mul_le_mul_right _ e3) k2
  ·rw[e2]
   have:=aq.take (((bg es).take n).length*sz) k3;rw[List.take_take]at this;have aa1:min (((bg es).take n).length*sz) ((bg es).length*sz)=((bg es).take n).length*sz:=Nat.min_eq_left (Nat.mul_le_mul_right _ e3);rw[aa1]at this;have hl:dE sz (bg es):=h2;have hf:(bg es).flatten.take (((bg es).take n).length*sz)=((bg es).take n).flatten:=by
    have:=iE (sz:=sz) n hl;rw[this];simp only[List.length_take];by_cases hn:n<=(bg es).length
    ·rw[Nat.min_eq_left hn]
    ·rw[Nat.min_eq_right (by omega),List.take_of_length_le (by rw[kI hl];exact Nat.le_refl _),List.take_of_length_le (by rw[kI hl];exact Nat.mul_le_mul_right _ (by omega))]
   rw[hf]at this;exact this
theorem Wk.CL{e:Env}{h:Heap}{s:σ}(b k sz:Nat)(hk:Nat.blt k 1000000=true)(hs:Nat.blt 0 sz=true)(hb:get h b=some (.box (.dd [.nils])))(iU:Nat.beq b k=false) :
  Wk (⟨e,h,s⟩:St σ) ⟨dv (aJ (bp k)) e,put (((k,.arr sz (.dd []))::dv (Obj.aJ (bp k)) (cut h k))) b (.box (.vv [.sl k sz 0 0])),s⟩:=by
 have hk:=Nat.le_of_ble_eq_true hk;have hs:=Nat.le_of_ble_eq_true hs;have er:b≠k:=by rintro rfl;simp at iU
 have h1:Wk (⟨e,h,s⟩:St σ) ⟨dv (aJ (bp k)) e,((k,.arr sz (.dd []))::dv (Obj.aJ (bp k)) (cut h k)),s⟩:=by
  intro cx r m L F a w hg;exact⟨_,F,hg.jU k sz (by unfold pinned;omega) hs (.dd []) rfl,Tr.refl F w⟩
 refine h1.trans (Wk.B9 b (o:=.box (.dd [.nils])) _ (by rw[fW,if_neg er,bY,e5,if_neg er,hb];rfl) (fun yv L F w h=>?_) fun L hb=>hb);obtain⟨c,T,hc,x,l',hl,hx,hr⟩:=h;have hx:x = .slice none 0 0:=hx;subst hx;exact⟨c,T,hc,_,l',hl,⟨none,0,rfl,Nat.le_refl _,hs,.inl ⟨rfl,rfl⟩⟩,hr⟩
end
theorem ao{k:IntKind}{n:Int}{K:V->Prop}(m:Int)(h:n=m)(hw:k.wrap m=m)(hK:K (.d (.int k m))):arith k n K:=by subst h;exact jI hw hK
section
variable {P : Program} {T : fA} {σ : Type} {Y : Hd σ}
theorem rK{f:FuncId}{args0:List V}{h0:Heap}{s:σ}{Q:V->Heap->σ->Prop}(hf:Lu P Y f args0 h0 s Q)(tb:List Nat){e:Env}{h:Heap}{d:Option Nat}{args:List V}{K:St σ->Prop}
  (dM:sq (fj tb (d.getD 0)) args0=args) (fB:jS (fj tb (d.getD 0)) h 1000000 tb h0) (rT:nodupB tb=true) (ze:Nat.ble tb.length 1000=true)
  (hq:∀ v h1 s',Q v h1 s'->fU tb d v h1=true/\bz (c8 tb d v h1) e h fun e h=>K ⟨e,h,s'⟩):eg P Y ⟨e,h,s⟩ d f args K:=by
 refine LY hf tb dM fB rT ze fun v h1 s' hv=>?_;obtain⟨h2,h3⟩:=hq v h1 s' hv;refine⟨h2,?_⟩;rw[cO s']at h3;have hs:(aL (⟨e,h,s'⟩:St σ) (c8 tb d v h1)).s=s':=dG _ _;generalize aL (⟨e,h,s'⟩:St σ) (c8 tb d v h1)=st at h3 hs;obtain⟨e1,h1,s1⟩:=st;simp only at hs;subst hs;exact h3
end
mutual
def oJ:V->V->Prop
 | .d a,.d b=>a=b
 | .agg a,.agg b=>we a b
 | .tup a,.tup b=>we a b
 | .clo f a,.clo g b=>f=g/\we a b
 | .ptr i o,.ptr j p=>Nat.beq i j=true/\o=p
 | .ep i s k o,.ep j t l p=>Nat.beq i j=true/\s=t/\k=l/\o=p
 | .sl i s o n,.sl j t p m=>Nat.beq i j=true/\s=t/\o=p/\n=m
 | .mp i,.mp j=>Nat.beq i j=true
 | .it i,.it j=>Nat.beq i j=true
 | .yld,.yld=>True
 | .unk,.unk=>True
 | _,_=>False
def we:List V->List V->Prop
 | [],[]=>True
 | a::r,b::s=>oJ a b/\we r s
 | _,_=>False
end
mutual
theorem N5:∀ (a b:V),oJ a b->a=b
 | .d a,b,h=>by cases b<;>simp only[oJ]at h;rw[h]
 | .agg a,b,h=>by cases b<;>simp only[oJ]at h;rw[mj _ _ h]
 | .tup a,b,h=>by cases b<;>simp only[oJ]at h;rw[mj _ _ h]
 | .clo f a,b,h=>by cases b<;>simp only[oJ]at h;rw[h.1,mj _ _ h.2]
 | .ptr i o,b,h=>by cases b<;>simp only[oJ]at h;rw[Nat.eq_of_beq_eq_true h.1,h.2]
 | .ep i s k o,b,h=>by cases b<;>simp only[oJ]at h;rw[Nat.eq_of_beq_eq_true h.1,h.2.1,h.2.2.1,h.2.2.2]
 | .sl i s o n,b,h=>by cases b<;>simp only[oJ]at h;rw[Nat.eq_of_beq_eq_true h.1,h.2.1,h.2.2.1,h.2.2.2]
 | .mp i,b,h=>by cases b<;>simp only[oJ]at h;rw[Nat.eq_of_beq_eq_true h]
 | .it i,b,h=>by cases b<;>simp only[oJ]at h;rw[Nat.eq_of_beq_eq_true h]
 | .yld,b,h=>by cases b<;>simp only[oJ]at h;rfl
 | .unk,b,h=>by cases b<;>simp only[oJ]at h;rfl
theorem mj:∀ (a b:List V),we a b->a=b
 | [],[],_=>rfl
 | a::r,b::s,h=>by rw[N5 a b h.1,mj r s h.2]
 | [],_::_,h=>h.elim
 | _::_,[],h=>h.elim
end
theorem bS{h:Heap}{i:Nat}{l l':List V}(h1:get h i=some (.box (.vv l)))(h2:we l l'):get h i=some (.box (.vv l')):=by rw[h1,mj l l' h2]
theorem gH{σ:Type}{r:List V}{h:Heap}{s:σ}{Q:V->Heap->σ->Prop}(hr:p9 (.d (.vs [])::r) h s Q):p9 (.d .nils::r) h s Q:=by
 obtain⟨hr⟩:=hr;refine⟨fun cx L F aT w hh hv=>hr cx L F aT w hh ?_⟩;obtain⟨x,l',rfl,hx,hl⟩:=hv;have hx:x = .slice none 0 0:=hx;subst hx;exact⟨_,l',rfl,⟨none,0,0,rfl,rfl,Nat.le_refl _,fun h=>absurd rfl h⟩,hl⟩
theorem wZ{α:Type}{n:Nat}{f:α->List D}(hf:∀ x,Nat.beq (f x).length n=true/\gr (f x)=true):∀ (l:List α),jb n (l.map f)=true
 | []=>rfl
 | x::r=>by
  simp only[List.map_cons,jb,(hf x).1,(hf x).2];exact wZ hf r
section
variable {P : Program} {T : fA} {σ : Type} {Y : Hd σ}
theorem eg.OF{st:St σ}{d:Option Nat}{f:FuncId}{args:List V}{K:St σ->Prop}(h:eg P Y st d f args fun u6=>∃ pZ,Wk u6 pZ/\K pZ):eg P Y st d f args K:=by
 obtain⟨h1,h2⟩:=h;refine⟨h1,fun cx hY r m L F a w aT hg hd hr=>(h2 cx hY r m L F a w aT hg hd hr).mono ?_⟩;rintro e w' (⟨x,rfl,st',L',F',⟨pZ,hw,hk⟩,dN,tr⟩|hp);case inr=>exact .inr hp
 obtain⟨L2,F2,iK,AK⟩:=hw cx r m L' F' _ w' dN;exact .inl ⟨x,rfl,pZ,L2,F2,hk,iK,Tr.trans tr AK⟩
end
theorem DD{g:Nat->Option DO}{id sz n:Nat}{d:D}(hv:dP g (.sl id sz 0 n)=some d):iJ g (.sl id sz 0 n) = .d d:=by
 simp[iJ,hv]
theorem fq{h:Heap}{k id sz n:Nat}{es es':List (List D)}(hg:get h id=some (.arr sz (.dd es)))(he:es=es')(hn:n=es'.length):dP (fp h (k+1)) (.sl id sz 0 n)=some (.vs es'):=by
 subst he;exact cH hg hn
end Go.PX
namespace Go.PX
theorem ky{g:Nat->Option DO}:∀ {a:List D} {r:List V} {r':List D},cS g r=some r'->cS g (inj a++r)=some (a++r')
 | [],r,r',h=>h
 | d::a,r,r',h=>by
  show cS g (.d d::(inj a++r))=_;rw[cS,ky h];rfl
theorem Cp{h:Heap}{n id:Nat}{l:List V}{l':List D}(hg:get h id=some (.box (.vv l)))(hl:cS (fp h n) l=some l'):dP (fp h (n+1)) (.ptr id 0)=some (.ref l'):=by
 simp only[dP,fp,hg,hl,List.drop_zero]
theorem vh{h:Heap}{n id:Nat}{cY:List (D×D)}(hg:get h id=some (.map cY)):dP (fp h (n+1)) (.mp id)=some (.mv cY):=by
 simp only[dP,fp,hg]
theorem aq.zP{yv:Option Nat}{L:Loc}{F:Nat->Nat}{w:World}{B:List V}(k sz:Nat)(hs:0<sz):∀ {A:List V} {l:List Value},aq yv L F w (A ++ .d .nils::B) l->aq yv L F w (A ++ .sl k sz 0 0::B) l
 | [],l,h=>by
  obtain⟨x,l',rfl,hx,hr⟩:=h;have hx:x = .slice none 0 0:=hx;subst hx;exact⟨_,l',rfl,⟨none,0,rfl,Nat.le_refl _,hs,.inl ⟨rfl,rfl⟩⟩,hr⟩
 | a::A,l,h=>by
  obtain⟨x,l',rfl,hx,hr⟩:=h;exact⟨x,l',rfl,hx,aq.zP k sz hs hr⟩
theorem Wk.LR{σ:Type}{e:Env}{h:Heap}{s:σ}(b k sz:Nat)(A B:List V)(hk:Nat.blt k 1000000=true)(hs:Nat.blt 0 sz=true)(hb:get (dv (Obj.aJ (bp k)) (cut h k)) b=some (.box (.vv (A ++ .d .nils::B))))(iU:Nat.beq b k=false) :
  Wk (⟨e,h,s⟩:St σ) ⟨dv (aJ (bp k)) e,put (((k,.arr sz (.dd []))::dv (Obj.aJ (bp k)) (cut h k))) b (.box (.vv (A ++ .sl k sz 0 0::B))),s⟩:=by
 have hk:=Nat.le_of_ble_eq_true hk;have hs:=Nat.le_of_ble_eq_true hs;have er:b≠k:=by rintro rfl;simp at iU
 have h1:Wk (⟨e,h,s⟩:St σ) ⟨dv (aJ (bp k)) e,((k,.arr sz (.dd []))::dv (Obj.aJ (bp k)) (cut h k)),s⟩:=by
  intro cx r m L F a w hg;exact⟨_,F,hg.jU k sz (by unfold pinned;omega) hs (.dd []) rfl,Tr.refl F w⟩
 refine h1.trans (Wk.B9 b (o:=.box (.vv (A ++ .d .nils::B))) _ (by rw[fW,if_neg er];exact hb) (fun yv L F w h=>?_) fun L hb=>hb);obtain⟨c,T,hc,hr⟩:=h;exact⟨c,T,hc,aq.zP k sz hs hr⟩
end Go.PX
