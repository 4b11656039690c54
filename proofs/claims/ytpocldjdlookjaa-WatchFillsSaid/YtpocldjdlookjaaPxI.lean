import Derived.Test.YtpocldjdlookjaaPxH
import Derived.ProofKit
import Derived.ReadAgain
set_option linter.all false
namespace Go.PX
open Go.RowKit
mutual
def gX:V->Bool
 | .agg cs=>iv cs
 | .tup cs=>iv cs
 | .clo _ cs=>iv cs
 | .yld=>false
 | _=>true
def iv:List V->Bool
 | []=>true
 | v::r=>gX v&&iv r
end
mutual
theorem a6.gX{yv MT:Option Nat}{L:Loc}{F:Nat->Nat}{w:World}:∀ (v:V) (x:Value),PX.gX v=true->a6 yv L F w v x->a6 MT L F w v x
 | .d _,_,_,h=>h
 | .agg cs,x,hy,h=>by
  obtain⟨l,rfl,hl⟩:=h;exact⟨l,rfl,aq.gX cs _ hy hl⟩
 | .tup cs,x,hy,h=>by
  obtain⟨l,rfl,hl⟩:=h;exact⟨l,rfl,aq.gX cs _ hy hl⟩
 | .clo f cs,x,hy,h=>by
  obtain⟨l,rfl,hl⟩:=h;exact⟨l,rfl,aq.gX cs _ hy hl⟩
 | .ptr _ _,_,_,h=>h
 | .ep _ _ _ _,_,_,h=>h
 | .sl _ _ _ _,_,_,h=>h
 | .mp _,_,_,h=>h
 | .it _,_,_,h=>h
 | .yld,_,hy,_=>by cases hy
 | .unk,_,_,h=>h
theorem aq.gX{yv MT:Option Nat}{L:Loc}{F:Nat->Nat}{w:World}:∀ (vs:List V) (l:List Value),iv vs=true->aq yv L F w vs l->aq MT L F w vs l
 | [],_,_,h=>h
 | v::r,l,hy,h=>by
  simp only[iv,Bool.and_eq_true]at hy;obtain⟨x,l',rfl,hx,hl⟩:=h;exact⟨x,l',rfl,a6.gX v x hy.1 hx,aq.gX r l' hy.2 hl⟩
end
def rF:Obj->Bool
 | .box c=>iv c.aU
 | .arr _ es=>iv es.aU.flatten
 | .mit v _ _ _=>gX v
 | .tb _ l=>iv l
 | _=>true
def xQ:av->Bool
 | []=>true
 | (_,o)::r=>rF o&&xQ r
theorem nM:∀ {h:av} {i:Nat} {o:Obj},xQ h=true->get h i=some o->rF o=true
 | [],i,o,_,h=>by cases h
 | (k,p)::r,i,o,hy,h=>by
  simp only[xQ,Bool.and_eq_true]at hy;simp only[get]at h;split at h
  ·cases h;exact hy.1
  ·exact nM hy.2 h
theorem bG.gX{yv MT:Option Nat}{L:Loc}{F:Nat->Nat}{w:World}{id:Nat}(o:Obj)(hy:rF o=true)(h:bG yv L F w id o):bG MT L F w id o:=by
 cases o with
 | box cs=>
  obtain⟨c,T,hc,hr⟩:=h;exact⟨c,T,hc,aq.gX _ _ hy hr⟩
 | arr sz es=>
  obtain⟨h1,h2,h3⟩:=h;refine⟨h1,h2,h3.imp (fun h=>h) ?_⟩;rintro ⟨c,T,hc,k1,k2,hr⟩;refine⟨c,T,hc,k1,k2,aq.gX _ _ hy hr⟩
 | map cc=>exact h
 | iter s n=>exact h
 | buf t s=>exact h
 | tb t l=>
  obtain⟨c,hc,hr⟩:=h;exact⟨c,hc,aq.gX _ _ hy hr⟩
 | mit v n l u=>
  obtain⟨r,seen,h1,h2⟩:=h;exact⟨r,seen,a6.gX v _ hy h1,h2⟩
inductive RS(α σ:Type) where
 | go (x:α)
 | done (e:ew) (h:av) (s:σ)
section
variable {α σ : Type}
def RS.heap(I:α->av×σ):RS α σ->av
 | .go x=>(I x).1
 | .done _ h _=>h
def RS.st(I:α->av×σ):RS α σ->σ
 | .go x=>(I x).2
 | .done _ _ s=>s
def Jm:ew->Code
 | .ret=>.ret
 | .exit i=>.exit i
 | .normal=>.skip
def iT(base:Go.Loop):RS α σ->Go.Loop
 | .go _=>{ base with state:=.ready,pending:=none }
 | .done e _ _=>{ base with state:=.done,pending:=some (Jm e) }
def td(L:Loc)(h:av)(b:Nat):Prop:=∃ id o,get h id=some o/\aN L id o/\L.ρ id=b
def bc(c n i:Nat):Bool:=Nat.ble c i&&Nat.blt i (c+n)
def se(p:Nat->Bool):List Nat->Bool
 | []=>true
 | i::r=>p i&&se p r
theorem fN{p:Nat->Bool}:∀ {l:List Nat},se p l=true -> ∀ i∈l,p i=true
 | [],_,i,hi=>by cases hi
 | k::r,h,i,hi=>by
  simp only[se,Bool.and_eq_true]at h;rcases List.mem_cons.1 hi with rfl|hi
  ·exact h.1
  ·exact fN h.2 i hi
def G6(c:Nat)(tb:List Nat)(h:av):Bool:=se (fun i=>!bc c 64 i && !sy tb i) (bT h)
def J3(args:List V)(h:av):Bool:=se (bc 1000000 64) (bm args)&&se (bc 1000000 64) (bT h)&&(iv args&&xQ h)
structure Ik(cx:Cx σ)(I:α->av×σ)(l:Nat)(m:List Nat)(r:Option Nat)(base:Go.Loop)(e1:Env)(tmps:Array Value)(c:Nat)(tb:List Nat)(pρ pκ:Nat->Nat)(F0:Nat->Nat)(w0:World)(g:RS α σ×Loc)(w:World)(F:Nat->Nat):Prop where
 heap:bo cx g.2 F (g.1.heap I) (g.1.st I) w
 wC:w.heap[l]?=some (.loop (iT base g.1))/\¬ cx.C (g.1.st I) l
 oe:∀ b∈m,w.heap[b]?=some (.deferred (some []))/\¬ cx.C (g.1.st I) b
 out:∀ l0,r=some l0 -> ∃ lp,(w.heap[l0]?=some (.loop lp)/\cx.wC=some lp)/\¬ cx.C (g.1.st I) l0
 env:∀ t v,get e1 t=some v -> ∃ x,tmps[t]?=some x/\a6 cx.yv g.2 F w v x
 lG:∀ i,pinned i->g.2.ρ i=pρ i/\g.2.κ i=pκ i
 tr:Tr F0 w0 F w
 ok:G6 c tb (g.1.heap I)=true
def eU(cx:Cx σ)(I:α->av×σ)(l:Nat)(m:List Nat)(r:Option Nat)(base:Go.Loop)(e1:Env)(tmps:Array Value)(c:Nat)(tb:List Nat)(pρ pκ:Nat->Nat)(F0:Nat->Nat)(w0:World):Cx (RS α σ×Loc) where
 C:=fun g b=>cx.C (g.1.st I) b\/td g.2 (g.1.heap I) b\/b=l\/b∈m\/r=some b
 HG:=fun g w F=>Ik cx I l m r base e1 tmps c tb pρ pκ F0 w0 g w F
 yv:=some l
 wC:=none
 pρ:=cx.pρ
 pκ:=cx.pκ
 eV:=by
  intro s w F w' F' h tr hf hk;refine⟨h.heap.G0 tr hf (fun b hb=>hk b (.inl hb)) (fun id o hi hb=>hk _ (.inr (.inl ⟨id,o,hi,hb,rfl⟩))),⟨by rw[(hk l (.inr (.inr (.inl rfl)))).1];exact h.wC.1,h.wC.2⟩,
   fun b hb=>⟨by rw[(hk b (.inr (.inr (.inr (.inl hb))))).1];exact(h.oe b hb).1,(h.oe b hb).2⟩,fun l0 hl=>?_,fun t v ht=>?_,h.lG,Tr.trans h.tr tr,h.ok⟩
  ·obtain⟨lp,⟨k1,k2⟩,k3⟩:=h.out l0 hl
   exact⟨lp,⟨by rw[(hk l0 (.inr (.inr (.inr (.inr hl))))).1];exact k1,k2⟩,k3⟩
  ·obtain⟨x,hx,hr⟩:=h.env t v ht
   exact⟨x,hx,a6.mono tr v x (fun _ _=>⟨rfl,rfl⟩) hr⟩
def zr:List Tmp->List V->Env->Env
 | t::ps,v::vs,e=>zr ps vs (put e t v)
 | _,_,e=>e
def cg(c:Nat)(i:Nat):Nat:=
 match Nat.ble 1000000 i,Nat.blt i 1000064 with
 | true,true=>c+(i-1000000)
 | _,_=>i
noncomputable def pr(P:Program)(T:dM)(ft:FT)(Y:Hd σ)(I:α->av×σ)(ps:Array Tmp)(a b:Code)(e1:Env)(c:Nat)(tb:List Nat):Hd (RS α σ) where
 y:=fun args h g Q=>match g with
  | .done _ _ _=>False
  | .go x=>(args.length=ps.size/\J3 args h=true)/\FI P T ft Y.np a ⟨zr ps.toList (og (cg c) args) e1,(I x).1++dQ (cg c) h,(I x).2⟩ fun e st=>match e with
   | .normal=>FI P T ft Y.np b st fun e st'=>match e with
    | .normal=>∃ x',Wk st' ⟨[],(I x').1++dQ (cg c) h,(I x').2⟩/\G6 c tb (I x').1=true/\Q (.d (.bool true)) h (.go x')
    | e=>∃ hd s',Wk st' ⟨[],hd++dQ (cg c) h,s'⟩/\G6 c tb hd=true/\Q (.d (.bool false)) h (.done e hd s')
   | _=>False
def yV(Y:Hd (RS α σ)):Hd (RS α σ×Loc) where
 y:=fun args h g Q=>Y.y args h g.1 fun v h' g'=>∀ L',Q v h' (g',L')
theorem bo.append{cx:Cx σ}{L:Loc}{F:Nat->Nat}{h k:av}{s:σ}{w:World}(hh:bo cx L F h s w)(hk:bo cx L F k s w)
  (hx:∀ i j o p,get h i=some o->get k j=some p->aN L i o->aN L j p->L.ρ i≠L.ρ j):bo cx L F (h++k) s w:=by
 have hg:∀ {h:av} {i:Nat} {o:Obj},get (h++k) i=some o->get h i=some o\/get k i=some o:=by
  intro h
  induction h with
  | nil=>exact fun h=>.inr h
  | cons a r ih=>
   intro i o h;obtain⟨j,p⟩:=a;simp only[List.cons_append,get]at h ⊢;split at h
   ·exact .inl h
   ·exact ih h
 refine⟨hh.hg,hh.iW,hh.fresh,fun i o hi=>(hg hi).elim (hh.obj i o) (hk.obj i o),fun i o hi=>(hg hi).elim (hh.own i o) (hk.own i o),fun i j o p hi hj hb kN e=>?_⟩;rcases hg hi with hi|hi<;>rcases hg hj with hj|hj
 ·exact hh.inj i j o p hi hj hb kN e
 ·exact absurd e (hx i j o p hi hj hb kN)
 ·exact absurd e.symm (hx j i p o hj hi kN hb)
 ·exact hk.inj i j o p hi hj hb kN e
theorem mH{h k:av}{i:Nat}{o:Obj}:get h i=some o->get (h++k) i=some o:=by
 induction h with
 | nil=>intro h;cases h
 | cons a r ih=>
  intro h;obtain⟨j,p⟩:=a;simp only[List.cons_append,get]at h ⊢;split at h
  ·exact h
  ·exact ih h
theorem q8{h k:av}{i:Nat}{o:Obj}:get h i=none->get k i=some o->get (h++k) i=some o:=by
 induction h with
 | nil=>intro _ h;exact h
 | cons a r ih=>
  intro h1 h2;obtain⟨j,p⟩:=a;simp only[List.cons_append,get]at h1 ⊢;split at h1
  ·cases h1
  ·exact ih h1 h2
theorem rM{R:Nat->Nat}:∀ {h:av} {j:Nat} {o:Obj},(∀ i∈bT h,R i=R j->i=j)->get h j=some o->get (dQ R h) (R j)=some (ir R o)
 | [],j,o,_,h=>by cases h
 | (k,p)::r,j,o,hi,h=>by
  simp only[get]at h;simp only[dQ,get];split at h
  ·rename_i he
   have:=Nat.eq_of_beq_eq_true he;subst this;cases h;simp
  ·rename_i he
   have:Nat.beq (R k) (R j)=false:=by
    rw[Bool.eq_false_iff];intro e;have:=hi k (by simp[bT]) (Nat.eq_of_beq_eq_true e);subst this;simp at he
   simp only[this];exact rM (fun i h1=>hi i (by simp[bT,h1])) h
theorem cX.np{P:Program}{Y:Hd σ}{cx:Cx σ}(hY:cX P Y cx):cX P Y.np cx:=⟨hY.yld,hY.laid⟩
theorem cX.RM{P:Program}{Y:Hd σ}{cx:Cx σ}(hY:cX P Y cx)(wC:Option Go.Loop)(pρ pκ:Nat->Nat):cX P Y { cx with wC:=wC,pρ:=pρ,pκ:=pκ }:=by
 refine⟨?_,hY.laid⟩;intro l hl args h s Q hy L' F' aX w so hr;obtain⟨fn,tmps,xR,body,h1,h2⟩:=hY.yld l hl args h s Q hy L' F' aX w ⟨so.hg,so.iW,so.fresh,so.obj,so.own,so.inj⟩ hr;refine⟨fn,tmps,xR,body,h1,h2.mono ?_⟩;rintro e w' ⟨x,he,v,h',s',Ii,FK,hq,kR,rest⟩;exact⟨x,he,v,h',s',Ii,FK,hq,⟨kR.hg,kR.iW,kR.fresh,kR.obj,kR.own,kR.inj⟩,rest⟩
theorem Good.record{cx:Cx σ}{l:Nat}{m:List Nat}{L:Loc}{F:Nat->Nat}{st:St σ}{a:Act}{w:World}(hg:Good cx (some l) m L F st a w)(lp:Go.Loop) :
  Good { cx with wC:=some lp } (some l) m L F st a (w.putObj l (.loop lp))/\Tr F w F (w.putObj l (.loop lp)):=by
 obtain⟨Nu,⟨h1,_⟩,h2⟩:=hg.lk l rfl;have tr:Tr F w F (w.putObj l (.loop lp)):=Tr.NB h1 (fun _ _ _ h=>by cases h) (fun _ _ h=>by cases h) (fun _ _ _ h=>by cases h);have hk:∀ x,x≠l->(w.putObj l (.loop lp)).heap[x]?=w.heap[x]?:=fun x hx=>World.putObj_heap_other hx;have hh:=hg.heap.G0 tr (fun b hb=>hg.heap.fresh b (by simpa using hb)) (fun b hb=>⟨hk b (by rintro rfl;exact h2 hb),rfl⟩) (fun id o hi hb=>⟨hk _ (by
  intro e;exact(bG.qy (hg.heap.obj id o hi) hb (by rw[e];exact h1)).1 Nu rfl),rfl⟩)
 refine⟨⟨⟨hh.hg,hh.iW,hh.fresh,hh.obj,hh.own,hh.inj⟩,fun t v ht=>?_,hg.sI,fun b hb=>?_,hg.uy,fun l' hl=>?_,hg.lG,hg.sD⟩,tr⟩
 ·obtain⟨x,hx,hr⟩:=hg.env t v ht
  exact⟨x,hx,a6.mono tr v x (fun _ _=>⟨rfl,rfl⟩) hr⟩
 ·obtain⟨k1,k2⟩:=hg.oe b hb
  exact⟨by rw[hk b (by rintro rfl;rw[h1]at k1;cases k1)];exact k1,k2⟩
 ·cases hl
  exact⟨lp,⟨World.putObj_heap_same (bL h1),rfl⟩,h2⟩
end
end Go.PX
namespace Go.PX
open Go.RowKit
section
variable {P : Program} {T : dM} {ft : FT} {α σ : Type} {Y : Hd σ} {cx : Cx σ} {I : α -> av × σ} {l : Nat} {m : List Nat} {r : Option Nat} {base : Go.Loop} {e1 : Env} {tmps : Array Value} {c : Nat} {tb : List Nat} {pρ pκ : Nat -> Nat} {F0 : Nat -> Nat} {w0 : World}
theorem lu{c i:Nat}(h:bc 1000000 64 i=true):cg c i=c+(i-1000000)/\1000000<=i/\i<1000064:=by
 simp only[bc,Bool.and_eq_true]at h;have h1:=Nat.le_of_ble_eq_true h.1;have h2:i<1000064:=Nat.le_of_ble_eq_true h.2;exact⟨by unfold cg;rw[h.1,show Nat.blt i 1000064=true from h.2],h1,h2⟩
theorem eM{c n i:Nat}:bc c n i=true↔c<=i/\i<c+n:=by
 simp only[bc,Bool.and_eq_true];exact⟨fun h=>⟨Nat.le_of_ble_eq_true h.1,Nat.le_of_ble_eq_true h.2⟩,fun h=>⟨Nat.ble_eq_true_of_le h.1,Nat.ble_eq_true_of_le h.2⟩⟩
def bM(c:Nat)(L L2:Loc):Loc:=⟨fun j=>if bc c 64 j then L2.ρ (1000000+(j-c)) else L.ρ j,fun j=>if bc c 64 j then L2.κ (1000000+(j-c)) else L.κ j⟩
theorem dz{L L2:Loc}{j:Nat}(h:bc c 64 j=false):(bM c L L2).ρ j=L.ρ j/\(bM c L L2).κ j=L.κ j:=by
 simp[bM,h]
theorem iU{L L2:Loc}{i:Nat}(h:bc 1000000 64 i=true):(bM c L L2).ρ (cg c i)=L2.ρ i/\(bM c L L2).κ (cg c i)=L2.κ i:=by
 obtain⟨h1,h2,h3⟩:=lu (c:=c) h;have:bc c 64 (cg c i)=true:=by rw[eM];omega
 have h4:1000000+(cg c i-c)=i:=by omega
 simp[bM,this,h4]
theorem qz{h:av}(hk:G6 c tb h=true):∀ i∈bT h,bc c 64 i=false/\i∉tb:=by
 intro i hi;have:=fN hk i hi;simp only[Bool.and_eq_true,Bool.not_eq_true']at this;exact⟨this.1,fun hm=>by rw[fW.2 hm]at this;cases this.2⟩
theorem wK:∀ {ps:List Tmp} {vs:List V} {e:Env} {aX:List Value} {t0:Array Value} {yv:Option Nat} {L:Loc} {F:Nat->Nat} {w:World},ps.length=vs.length->(∀ p∈ps,p<t0.size)->aq yv L F w vs aX->(∀ t v,get e t=some v -> ∃ x,t0[t]?=some x/\a6 yv L F w v x) ->
  ∀ t v,get (zr ps vs e) t=some v -> ∃ x,((ps.zip aX).foldl (fun tm (p:Tmp×Value)=>tm.setIfInBounds p.1 p.2) t0)[t]?=some x/\a6 yv L F w v x
 | [],vs,e,aX,t0,yv,L,F,w,_,_,_,he,t,v,ht=>by
  have:zr [] vs e=e:=by cases vs<;>rfl
  rw[this]at ht;simpa using he t v ht
 | p::ps,[],e,aX,t0,yv,L,F,w,hl,_,_,_,_,_,_=>by cases hl
 | p::ps,v0::vs,e,_,t0,yv,L,F,w,hl,hp,⟨x,l',rfl,hx,hr⟩,he,t,v,ht=>by
  simp only[List.zip_cons_cons,List.foldl_cons];refine wK (ps:=ps) (vs:=vs) (e:=put e p v0) (t0:=t0.setIfInBounds p x) (by simpa using hl) (fun q hq=>by simpa using hp q (List.mem_cons_of_mem _ hq)) hr (fun t' v' No=>?_) t v ht;clear ht;rw[cH]at No;split at No
  ·rename_i e1;cases No;rw[e1]
   exact⟨x,by simp[Array.getElem?_setIfInBounds,hp p (List.mem_cons_self ..)],hx⟩
  ·rename_i e1
   obtain⟨y,hy,yI⟩:=he t' v' No;exact⟨y,by rw[Array.getElem?_setIfInBounds_ne (Ne.symm e1)];exact hy,yI⟩
theorem oW:∀ (l:List (Tmp×Value)) (t0:Array Value),(l.foldl (fun tm (p:Tmp×Value)=>tm.setIfInBounds p.1 p.2) t0).size=t0.size
 | [],t0=>rfl
 | p::l,t0=>by simp only[List.foldl_cons];rw[oW l];simp
def s6(cx:Cx σ)(s0:σ)(w:World)(F:Nat->Nat)(Own:Nat->Prop)(l:Nat)(wC:Option Go.Loop)(pρ pκ:Nat->Nat):Cx σ:=
 { AL cx s0 w F (fun b=>Own b\/b=l) with wC:=wC,pρ:=pρ,pκ:=pκ }
theorem zj{cx:Cx σ}{I:α->av×σ}{x:α}{L1:Loc}{w:World}{F:Nat->Nat}(hg:(eU cx I l m r base e1 tmps c tb pρ pκ F0 w0).HG (.go x,L1) w F)(tR:base.state = .ready/\base.pending=none){ps:Array Tmp}
  (GN:∀ p∈ps.toList,p<tmps.size) (P5:tmps.size<=1000000) (hc:1000000<=c/\c+64<=2000000) (hE:∀ i∈fv e1,pinned i/\bc c 64 i=false) {args:List V} {h:av} {L2:Loc} {aX:Array Value}
  (hh:bo (eU cx I l m r base e1 tmps c tb pρ pκ F0 w0) L2 F h (.go x,L1) w) (hr:aq (some l) L2 F w args aX.toList) (hlen:args.length=ps.size) (e7:J3 args h=true) :
  Good (s6 cx (I x).2 w F (td (bM c L1 L2) ((I x).1++dQ (cg c) h)) l (some base) (bM c L1 L2).ρ (bM c L1 L2).κ) (some l) [] (bM c L1 L2) F
   ⟨zr ps.toList (og (cg c) args) e1,(I x).1++dQ (cg c) h,(I x).2⟩ { tmps:=(ps.zip aX).foldl (fun t (p,v)=>t.setIfInBounds p v) tmps,defers:=[] } w:=by
 obtain⟨i1,i2,i3,i4,i5,i6,i7,i8⟩:=hg;simp only[RS.heap,RS.st]at i1 i2 i3 i4 i8;simp only[J3,Bool.and_eq_true]at e7;obtain⟨⟨hA,hB⟩,Nr⟩:=e7;have hA:=fN hA;have hB:=fN hB;have hC:=qz i8;have CO:bo cx L2 F h (I x).2 w:=⟨i1.hg,fun b hb=>hh.iW b (.inl hb),hh.fresh,fun id o hi=>bG.gX o (nM Nr.2 hi) (hh.obj id o hi),fun id o hi hb=>⟨(hh.own id o hi hb).1,fun h=>(hh.own id o hi hb).2 (.inl h)⟩,hh.inj⟩;have GO:aq cx.yv L2 F w args aX.toList:=aq.gX _ _ Nr.1 hr;have R7:bo cx (bM c L1 L2) F (I x).1 (I x).2 w:=by
  refine⟨i1.hg,i1.iW,i1.fresh,fun id o hi=>?_,fun id o hi hb=>?_,fun i j o p hi hj hb kN e=>?_⟩
  ·obtain⟨n1,n2⟩:=a5 hi
   exact bG.mono (Tr.refl F w) id o (fun j hj=>dz (hC j (n2 j (cp j o hj))).1) (dz (hC id n1).1) (fun _=>rfl) (i1.obj id o hi)
  ·obtain⟨n1,n2⟩:=a5 hi
   obtain⟨q1,q2⟩:=dz (L:=L1) (L2:=L2) (hC id n1).1;rw[q1];exact i1.own id o hi (eD q2 hb)
  ·obtain⟨n1,_⟩:=a5 hi
   obtain⟨n2,_⟩:=a5 hj;obtain⟨q1,q2⟩:=dz (L:=L1) (L2:=L2) (hC i n1).1;obtain⟨q3,q4⟩:=dz (L:=L1) (L2:=L2) (hC j n2).1;rw[q1,q3]at e;exact i1.inj i j o p hi hj (eD q2 hb) (eD q4 kN) e
 have CE:bo cx (bM c L1 L2) F (dQ (cg c) h) (I x).2 w:=CO.kY fun i hi=>iU (hB i hi);have JL:=R7.append CE (by
  intro i j o p hi hj hb kN e;obtain⟨n1,_⟩:=a5 hi;obtain⟨q1,q2⟩:=dz (L:=L1) (L2:=L2) (hC i n1).1;obtain⟨j',p',yA,rfl,rfl⟩:=jJ hj;obtain⟨n2,_⟩:=a5 yA;obtain⟨q3,q4⟩:=iU (c:=c) (L:=L1) (L2:=L2) (hB j' n2);rw[q1,q3]at e;refine(hh.own j' p' yA ((bN (R:=cg c) (L:=L2) (L':=bM c L1 L2) j' p' q4).1 kN)).2 (.inr (.inl ⟨i,o,hi,eD q2 hb,e⟩)))
 refine⟨⟨⟨i1.hg,Nat.le_refl _,fun b hb hc=>hc,fun b hb hl hc=>⟨rfl,rfl⟩⟩,fun b hb=>hb.elim (i1.iW b) (fun h=>h.1),i1.fresh,JL.obj,fun id o hi hb=>⟨(JL.own id o hi hb).1,fun hC=>hC.elim (JL.own id o hi hb).2 fun hC=>hC.2 (.inl ⟨id,o,hi,hb,rfl⟩)⟩,JL.inj⟩,?_,rfl,(fun b hb=>by cases hb),List.nodup_nil,?_,fun _ _=>⟨rfl,rfl⟩,?_⟩
 ·intro t v ht
  have J1:aq cx.yv (bM c L1 L2) F w (og (cg c) args) aX.toList:=(aq.kY (R:=cg c) (L:=L2) (L':=bM c L1 L2) args _ fun i hi=>iU (hA i (ee i args hi))).2 GO;have:=wK (ps:=ps.toList) (t0:=tmps) (by simp[iC,hlen]) GN J1 (fun t v ht=>by
   obtain⟨y,hy,yI⟩:=i5 t v ht;exact⟨y,hy,a6.mono (Tr.refl F w) v y (fun j hj=>dz (hE j (gO ht hj)).2) yI⟩) t v ht
  rw[<- Array.foldl_toList,Array.toList_zip];exact this
 ·intro l' hl
  cases hl;have hb:iT base (RS.go x:RS α σ)=base:=by
   obtain⟨h1,h2⟩:=tR;cases base;simp only at h1 h2;subst h1;subst h2;rfl
  rw[hb]at i2;exact⟨base,⟨i2.1,rfl⟩,fun hC=>hC.elim i2.2 fun hC=>hC.2 (.inr rfl)⟩
 ·show((ps.zip aX).foldl (fun t (p,v)=>t.setIfInBounds p v) tmps).size<=1000000
  rw[<- Array.foldl_toList,oW];exact P5
theorem zk{cx:Cx σ}{I:α->av×σ}{x:α}{L1:Loc}{w:World}{F:Nat->Nat}(hg:(eU cx I l m r base e1 tmps c tb pρ pκ F0 w0).HG (.go x,L1) w F)(CX:r≠some l)(hc:1000000<=c/\c+64<=2000000)(hE:∀ i∈fv e1,pinned i/\bc c 64 i=false)
  {args:List V} {h:av} {L2:Loc} (hh:bo (eU cx I l m r base e1 tmps c tb pρ pκ F0 w0) L2 F h (.go x,L1) w) (e7:J3 args h=true) {lp:Go.Loop} {m1:List Nat} {L3:Loc} {F3:Nat->Nat} {a:Act} {w3:World} {g:RS α σ} (CN:iT lp g=iT base g)
  (hd:Good (s6 cx (I x).2 w F (td (bM c L1 L2) ((I x).1++dQ (cg c) h)) l (some lp) (bM c L1 L2).ρ (bM c L1 L2).κ) (some l) m1 L3 F3 ⟨[],g.heap I++dQ (cg c) h,g.st I⟩ a w3) (vr:G6 c tb (g.heap I)=true) (tr:Tr F w F3 w3) :
  ∃ L4 L5,bo (eU cx I l m r base e1 tmps c tb pρ pκ F0 w0) L5 F3 h (g,L4) (w3.putObj l (.loop (iT base g)))/\Tr F w F3 (w3.putObj l (.loop (iT base g)))/\te L2 L5 /\
   (∀ b,b<w.heap.size->¬ (eU cx I l m r base e1 tmps c tb pρ pκ F0 w0).C (.go x,L1) b->¬ (eU cx I l m r base e1 tmps c tb pρ pκ F0 w0).C (g,L4) b) /\
   (∀ b,b<w.heap.size->¬ (eU cx I l m r base e1 tmps c tb pρ pκ F0 w0).C (.go x,L1) b->(∀ id o,get h id=some o->aN L2 id o->L2.ρ id≠b)->(w3.putObj l (.loop (iT base g))).heap[b]?=w.heap[b]?/\F3 b=F b) /\
   (∀ id o,get h id=some o->aN L5 id o->L5.ρ id<w.heap.size -> ∃ id' o',get h id'=some o'/\aN L2 id' o'/\L2.ρ id'=L5.ρ id):=by
 obtain⟨i1,i2,i3,i4,i5,i6,i7,i8⟩:=hg;simp only[RS.heap,RS.st]at i1 i2 i3 i4 i8;simp only[J3,Bool.and_eq_true]at e7;obtain⟨⟨hA,hB⟩,Nr⟩:=e7;have hB:=fN hB;have hC:=qz i8;have M6:=qz vr;obtain⟨yt,cU,CF,g8⟩:=hd.heap.hg;obtain⟨TF,⟨k1,k2⟩,k3⟩:=hd.lk l rfl;have k2:some lp=some TF:=k2;cases k2;have SN:¬ cx.C (g.st I) l:=fun h=>k3 (.inl h);have iY:∀ i,bc c 64 i=true->pinned i:=fun i hi=>by rw[eM]at hi;unfold pinned;omega
 have sV:∀ i,bc 1000000 64 i=true->L3.ρ (cg c i)=L2.ρ i/\L3.κ (cg c i)=L2.κ i:=by
  intro i hi;obtain⟨p1,p2⟩:=hd.lG (cg c i) (by obtain⟨q1,q2,q3⟩:=lu (c:=c) hi;unfold pinned;omega);obtain⟨p3,p4⟩:=iU (c:=c) (L:=L1) (L2:=L2) hi;exact⟨p1.trans p3,p2.trans p4⟩
 let L4:Loc:=⟨fun j=>if bc c 64 j then L1.ρ j else L3.ρ j,fun j=>if bc c 64 j then L1.κ j else L3.κ j⟩
 have OQ:∀ j,bc c 64 j=false->L4.ρ j=L3.ρ j/\L4.κ j=L3.κ j:=fun j hj=>by simp[L4,hj]
 have KW:∀ i,pinned i->L4.ρ i=L1.ρ i/\L4.κ i=L1.κ i:=by
  intro i hi
  cases hr:bc c 64 i with
  | true=>simp[L4,hr]
  | false=>
   obtain⟨p1,p2⟩:=hd.lG i hi;obtain⟨p3,p4⟩:=dz (L:=L1) (L2:=L2) hr;obtain⟨p5,p6⟩:=OQ i hr;exact⟨p5.trans (p1.trans p3),p6.trans (p2.trans p4)⟩
 have lL:Tr F3 w3 F3 (w3.putObj l (.loop (iT base g))):=Tr.NB k1 (fun _ _ _ h=>by cases h) (fun _ _ h=>by cases h) (fun _ _ _ h=>by cases h);have hk:∀ y,y≠l->(w3.putObj l (.loop (iT base g))).heap[y]?=w3.heap[y]?:=fun y hy=>World.putObj_heap_other hy;have mL:∀ id o,get (g.heap I++dQ (cg c) h) id=some o->aN L3 id o->L3.ρ id≠l:=fun id o hi hb e=>(bG.qy (hd.heap.obj id o hi) hb (by rw[e];exact k1)).1 _ rfl;have wc:=hd.heap.G0 (F':=F3) lL (fun b hb=>hd.heap.fresh b (by simpa using hb)) (fun b hb=>⟨hk b (by rintro rfl;exact k3 hb),rfl⟩) (fun id o hi hb=>⟨hk _ (mL id o hi hb),rfl⟩);obtain⟨OK,_,_,_⟩:=wc.hg;have ky:∀ i o,get (g.heap I) i=some o->get (g.heap I++dQ (cg c) h) i=some o:=fun i o hi=>mH hi;have xq:∀ i o,get h i=some o->get (g.heap I++dQ (cg c) h) (cg c i)=some (ir (cg c) o):=by
  intro i o hi;obtain⟨n1,_⟩:=a5 hi;have HZ:get (g.heap I) (cg c i)=none:=by
   cases hq:get (g.heap I) (cg c i) with
   | none=>rfl
   | some o'=>
    have:=(M6 _ (a5 hq).1).1;obtain⟨q1,q2,q3⟩:=lu (c:=c) (hB i n1);rw[show bc c 64 (cg c i)=true from by rw[eM];omega]at this;cases this
  refine q8 HZ (rM (fun j hj e=>?_) hi);obtain⟨q1,q2,q3⟩:=lu (c:=c) (hB i n1);obtain⟨q4,q5,q6⟩:=lu (c:=c) (hB j hj);omega
 have HO:∀ i o,get h i=some o->(aN L3 (cg c i) (ir (cg c) o)↔aN L2 i o):=fun i o hi=>bN (R:=cg c) (L:=L2) (L':=L3) i o (sV i (hB i (a5 hi).1)).2;have ES:∀ i o,get (g.heap I) i=some o->L4.ρ i=L3.ρ i/\L4.κ i=L3.κ i:=fun i o hi=>OQ i (M6 i (a5 hi).1).1;have En:∀ b,td (bM c L1 L2) ((I x).1++dQ (cg c) h) b->td L1 (I x).1 b \/ ∃ j p,get h j=some p/\aN L2 j p/\L2.ρ j=b:=by
  rintro b ⟨j,p,hj,gJ,e⟩
  cases hq:get (I x).1 j with
  | some p'=>
   have:p'=p:=by
    have:=mH (k:=dQ (cg c) h) hq;rw[hj]at this;exact(Option.some.inj this).symm
   subst this;obtain⟨q1,q2⟩:=dz (L:=L1) (L2:=L2) (hC j (a5 hq).1).1;exact .inl ⟨j,p',hq,eD q2 gJ,by rw[<- q1];exact e⟩
  | none=>
   have yA:get (dQ (cg c) h) j=some p:=by
    have Pg:∀ (k:av),get k j=none -> ∀ k',get (k++k') j=get k' j:=by
     intro k
     induction k with
     | nil=>intro _ _;rfl
     | cons kv r ih=>
      obtain⟨u,v⟩:=kv;intro h1 k';simp only[List.cons_append,get]at h1 ⊢;split at h1
      ·cases h1
      ·exact ih h1 k'
    rw[<- Pg _ hq];exact hj
   obtain⟨j',p',Lp,rfl,rfl⟩:=jJ yA;obtain⟨q3,q4⟩:=iU (c:=c) (L:=L1) (L2:=L2) (hB j' (a5 Lp).1);exact .inr ⟨j',p',Lp,(bN (R:=cg c) (L:=L2) (L':=bM c L1 L2) j' p' q4).1 gJ,by rw[<- q3];exact e⟩
 have yD:∀ i o,get (g.heap I) i=some o->aN L4 i o->¬ cx.C (g.st I) (L3.ρ i)/\F3 (L3.ρ i)=0/\L3.ρ i≠l/\(L3.ρ i<w.heap.size->td L1 (I x).1 (L3.ρ i)) /\ ∀ j p,get h j=some p->aN L2 j p->L3.ρ i≠L2.ρ j:=by
  intro i o hi hb;have DA:aN L3 i o:=eD (ES i o hi).2 hb;obtain⟨p1,p2⟩:=hd.heap.own i o (ky i o hi) DA;have eA:∀ j p,get h j=some p->aN L2 j p->L3.ρ i≠L2.ρ j:=by
   intro j p hj gJ e;obtain⟨n1,_⟩:=a5 hj;have:=hd.heap.inj i (cg c j) o _ (ky i o hi) (xq j p hj) DA ((HO j p hj).2 gJ) (by rw[(sV j (hB j n1)).1];exact e);have h1:=(M6 i (a5 hi).1).1;rw[this]at h1;obtain⟨q1,q2,q3⟩:=lu (c:=c) (hB j n1);rw[show bc c 64 (cg c j)=true from by rw[eM];omega]at h1;cases h1
  refine⟨fun h=>p2 (.inl h),p1,mL i o (ky i o hi) DA,fun eC=>?_,eA⟩;have:td (bM c L1 L2) ((I x).1++dQ (cg c) h) (L3.ρ i)\/L3.ρ i=l:=Classical.byContradiction fun hn=>p2 (.inr ⟨eC,hn⟩);rcases this with ho|e
  ·rcases En _ ho with ho|⟨j,p,hj,gJ,e⟩
   ·exact ho
   ·exact absurd e.symm (eA j p hj gJ)
  ·exact absurd e (mL i o (ky i o hi) DA)
 have jS:∀ b,b<w.heap.size->¬ td (bM c L1 L2) ((I x).1++dQ (cg c) h) b->b≠l->¬ cx.C (I x).2 b->(w3.putObj l (.loop (iT base g))).heap[b]?=w.heap[b]?/\F3 b=F b:=fun b hb ho hl hC=>by
  obtain⟨q1,q2⟩:=g8 b hb (fun h=>h.elim ho hl) hC;exact⟨(hk b hl).trans q1,q2⟩
 have La:∀ b o,w.heap[b]?=some o->((∃ lp,o = .loop lp) \/ ∃ d,o = .deferred d)->¬ td (bM c L1 L2) ((I x).1++dQ (cg c) h) b:=by
  intro b o hb ho PJ;have:(∀ lp,o ≠ .loop lp)/\(∀ d,o ≠ .deferred d):=by
   rcases En b PJ with⟨j,p,hj,gJ,e⟩|⟨j,p,hj,gJ,e⟩
   ·exact bG.qy (i1.obj j p hj) gJ (by rw[e];exact hb)
   ·exact bG.qy (hh.obj j p hj) gJ (by rw[e];exact hb)
  rcases ho with⟨lp,rfl⟩|⟨d,rfl⟩
  ·exact this.1 _ rfl
  ·exact this.2 _ rfl
 refine⟨L4,L2,?_,Tr.trans tr lL,fun _ _=>⟨rfl,rfl⟩,?_,?_,fun id o hi hb _=>⟨id,o,hi,hb,rfl⟩⟩
 ·have IE:Ik cx I l m r base e1 tmps c tb pρ pκ F0 w0 (g,L4) (w3.putObj l (.loop (iT base g))) F3:=by
   refine⟨⟨OK,fun b hb=>wc.iW b (.inl hb),wc.fresh,fun i o hi=>?_,fun i o hi hb=>?_,fun i j o p hi hj hb kN e=>?_⟩,⟨World.putObj_heap_same (bL k1),SN⟩,fun b hb=>?_,fun l0 FQ=>?_,fun t v ht=>?_,fun i hi=>?_,Tr.trans i7 (Tr.trans tr lL),vr⟩
   ·refine bG.mono (Tr.refl _ _) i o (fun j hj=>OQ j (M6 j ((a5 hi).2 j (cp j o hj))).1) (ES i o hi) (fun _=>rfl) (wc.obj i o (ky i o hi))
   ·obtain⟨z1,z2,_⟩:=yD i o hi hb
    show F3 (L4.ρ i)=0/\¬ cx.C (g.st I) (L4.ρ i);rw[(ES i o hi).1];exact⟨z2,z1⟩
   ·have e:L4.ρ i=L4.ρ j:=e
    rw[(ES i o hi).1,(ES j p hj).1]at e;exact hd.heap.inj i j o p (ky i o hi) (ky j p hj) (eD (ES i o hi).2 hb) (eD (ES j p hj).2 kN) e
   ·obtain⟨z1,z2⟩:=i3 b hb
    have eC:=bL z1;have HO:b≠l:=by rintro rfl;rw[i2.1]at z1;cases z1
    exact⟨by rw[(jS b eC (La b _ z1 (.inr ⟨_,rfl⟩)) HO z2).1];exact z1,CF b eC z2⟩
   ·obtain⟨Nu,⟨z1,z0⟩,z2⟩:=i4 l0 FQ
    have eC:=bL z1;have HO:l0≠l:=by rintro rfl;exact CX FQ
    exact⟨Nu,⟨by rw[(jS l0 eC (La l0 _ z1 (.inl ⟨_,rfl⟩)) HO z2).1];exact z1,z0⟩,CF l0 eC z2⟩
   ·obtain⟨y,hy,yI⟩:=i5 t v ht
    exact⟨y,hy,a6.mono (Tr.trans tr lL) v y (fun j hj=>KW j (hE j (gO ht hj)).1) yI⟩
   ·obtain⟨p1,p2⟩:=KW i hi
    obtain⟨p3,p4⟩:=i6 i hi;exact⟨p1.trans p3,p2.trans p4⟩
  refine⟨IE,fun b hb=>?_,wc.fresh,fun i o hi=>?_,fun i o hi hb=>?_,fun i j o p hi hj hb kN e=>hh.inj i j o p hi hj hb kN e⟩
  ·rcases hb with hb|⟨id,o,hi,hb,e⟩|rfl|hb|hb
   ·exact wc.iW b (.inl hb)
   ·have eC:=(hd.heap.obj id o (ky id o hi)).lt (eD (ES id o hi).2 hb)
    have e:L4.ρ id=b:=e;rw[(ES id o hi).1]at e;rw[<- e];simpa using eC
   ·simpa using bL k1
   ·exact bL (IE.oe b hb).1
   ·obtain⟨Nu,⟨z1,_⟩,_⟩:=IE.out b hb
    exact bL z1
  ·have h1:=wc.obj _ _ (xq i o hi)
   have h2:=(bG.kY (R:=cg c) (L:=L2) (L':=L3) i o (fun j hj=>sV j (hB j ((a5 hi).2 j (cp j o hj)))) (sV i (hB i (a5 hi).1))).1 h1;exact bG.gX o (nM Nr.2 hi) h2
  ·have DA:=(HO i o hi).2 hb
   obtain⟨z1,z2⟩:=hd.heap.own _ _ (xq i o hi) DA;have hp:=(sV i (hB i (a5 hi).1)).1;rw[hp]at z1 z2;refine⟨z1,?_⟩;rintro (El|⟨id,o',GA,kN,e⟩|e|hm|hm)
   ·exact z2 (.inl El)
   ·obtain⟨_,_,_,_,z⟩:=yD id o' GA kN
    have e:L4.ρ id=L2.ρ i:=e;rw[(ES id o' GA).1]at e;exact z i o hi hb e
   ·exact mL _ _ (xq i o hi) DA (by rw[hp];exact e)
   ·exact(hh.own i o hi hb).2 (.inr (.inr (.inr (.inl hm))))
   ·exact(hh.own i o hi hb).2 (.inr (.inr (.inr (.inr hm))))
 ·intro b hb hC El
  rcases El with El|⟨id,o',GA,kN,e⟩|e|hm|hm
  ·exact CF b hb (fun h=>hC (.inl h)) El
  ·obtain⟨_,_,_,z,_⟩:=yD id o' GA kN
   have e:L4.ρ id=b:=e;rw[(ES id o' GA).1]at e;rw[e]at z;exact hC (.inr (.inl (z hb)))
  ·exact hC (.inr (.inr (.inl e)))
  ·exact hC (.inr (.inr (.inr (.inl hm))))
  ·exact hC (.inr (.inr (.inr (.inr hm))))
 ·intro b hb hC BG
  refine jS b hb ?_ (fun e=>hC (.inr (.inr (.inl e)))) (fun h=>hC (.inl h));intro PJ;rcases En b PJ with ho|⟨j,p,hj,gJ,e⟩
  ·exact hC (.inr (.inl ho))
  ·exact BG j p hj gJ e
end
section
variable {P : Program} {T : dM} {ft : FT} {α σ : Type} {Y : Hd σ} {cx : Cx σ} {I : α -> av × σ} {l : Nat} {m : List Nat} {r : Option Nat} {base : Go.Loop} {e1 : Env} {tmps : Array Value} {c : Nat} {tb : List Nat} {pρ pκ : Nat -> Nat} {F0 : Nat -> Nat} {w0 : World}
theorem vA(hT:bj P T){ps:Array Tmp}{a b:Code}(IC:cY P T ft a)(ID:cY P T ft b)(hY:cX P Y cx)(CX:r≠some l)
  (n9:base.params=ps) (mI:base.assign=a) (DA:base.body=b) (M9:base.tmps=tmps) (tR:base.state = .ready/\base.pending=none)
  (GN:∀ p∈ps.toList,p<tmps.size) (P5:tmps.size<=1000000) (OZ:codeOk tmps.size a=true) (O0:codeOk tmps.size b=true) (hc:1000000<=c/\c+64<=2000000) (hE:∀ i∈fv e1,pinned i/\bc c 64 i=false) :
  cX P (yV (pr P T ft Y I ps a b e1 c tb)) (eU cx I l m r base e1 tmps c tb pρ pκ F0 w0):=by
 refine⟨?_,fun s w F hh=>hY.laid _ w F hh.heap.hg⟩;intro l' hl args h s Q hy L2 F aX w hh hr;cases hl;obtain⟨g,L1⟩:=s
 cases g with
 | done e hd s=>exact hy.elim
 | go x=>
  obtain⟨⟨hlen,e7⟩,hy⟩:=hy;have yt:=hh.hg;have hi:=yt.wC.1;have EN:iT base (RS.go x:RS α σ)=base:=by
   obtain⟨h1,h2⟩:=tR;cases base;simp only at h1 h2;subst h1;subst h2;rfl
  have hi:w.heap[l]?=some (.loop base):=by rw[<- EN];exact hi
  have BL:aX.size=base.params.size:=by
   have:=hr.length;rw[n9,<- hlen];simpa using this
  refine⟨base.fn,_,base.assign,base.body,run_yield hi BL,?_⟩;refine roundIn_of_wpIn (F:=Fence.wide) trivial ?_;have hg:=zj yt tR GN P5 hc hE hh hr hlen e7;have Rm:cX P Y (s6 cx (I x).2 w F (td (bM c L1 L2) ((I x).1++dQ (cg c) h)) l (some base) (bM c L1 L2).ρ (bM c L1 L2).κ):=(nq hY).RM _ _ _;have cU:((ps.zip aX).foldl (fun t (p,v)=>t.setIfInBounds p v) tmps).size=tmps.size:=by rw[<- Array.foldl_toList,oW]
  rw[n9,mI,DA,M9];have hA:=dU hT a IC _ _ hy _ Rm.np (some l) [] _ F _ w hg (by rw[cU];exact OZ);refine wpIn_mono hA fun ex a1 w1 hq=>?_;rcases hq with⟨e',oh,m1,L3,F3,rfl,hk,db,vh,qh⟩|⟨_,_,_,_,_,_,_,_,hp,_⟩
  case inr=>exact hp.elim
  cases e' with
  | exit i=>exact hk.elim
  | ret=>exact hk.elim
  | normal=>
   obtain⟨lp,⟨q1,q2⟩,_⟩:=db.lk l rfl;have q2:some base=some lp:=q2;cases q2;refine⟨_,run_beginRound q1 tR.1,?_⟩;obtain⟨iX,DG⟩:=db.record { base with state:=.busy };have OU:cX P Y { s6 cx (I x).2 w F (td (bM c L1 L2) ((I x).1++dQ (cg c) h)) l (some base) (bM c L1 L2).ρ (bM c L1 L2).κ with wC:=some { base with state:=.busy } }:=Rm.RM (some { base with state:=.busy }) _ _;have hB:=dU hT b ID _ _ hk _ OU.np (some l) m1 L3 F3 _ _ iX (by rw[qh];show codeOk (Array.size _) b=true;rw[cU];exact O0);refine wpIn_mono hB fun ex a2 w2 hq=>?_;rcases hq with⟨NF,rA,m2,L4,F4,rfl,fj,Gy,TN,CZ⟩|⟨_,_,_,_,_,_,_,_,hp,_⟩
   case inr=>exact hp.elim
   have TO:Tr F w F4 w2:=Tr.trans vh (Tr.trans DG TN);have fin:∀ (g:RS α σ) (yR:Option Code) (v:Bool),iT base g={ base with state:=if yR.isNone then .ready else .done,pending:=yR }->v=yR.isNone->Wk rA ⟨[],g.heap I++dQ (cg c) h,g.st I⟩->G6 c tb (g.heap I)=true ->
     (∀ L',Q (.d (.bool v)) h (g,L')) -> ∃ u w',(Instr.endRound l yR).run P w2 = .ok u w' /\ ∃ RN,Ending.returned u = .returned RN /\ ∃ v h' s' L' F',Q v h' s'/\bo (eU cx I l m r base e1 tmps c tb pρ pκ F0 w0) L' F' h' s' w' /\
      a6 (eU cx I l m r base e1 tmps c tb pρ pκ F0 w0).yv L' F' w' v RN/\Tr F w F' w'/\te L2 L' /\
      (∀ b,b<w.heap.size->¬ (eU cx I l m r base e1 tmps c tb pρ pκ F0 w0).C (.go x,L1) b->¬ (eU cx I l m r base e1 tmps c tb pρ pκ F0 w0).C s' b) /\
      (∀ b,b<w.heap.size->¬ (eU cx I l m r base e1 tmps c tb pρ pκ F0 w0).C (.go x,L1) b->(∀ id o,get h id=some o->aN L2 id o->L2.ρ id≠b)->w'.heap[b]?=w.heap[b]?/\F' b=F b) /\
      (∀ id o,get h' id=some o->aN L' id o->L'.ρ id<w.heap.size -> ∃ id' o',get h id'=some o'/\aN L2 id' o'/\L2.ρ id'=L'.ρ id):=by
    intro g yR v EN hv ER vr hQ;obtain⟨L5,F5,Ru,J4⟩:=ER _ _ _ _ _ _ _ Gy;obtain⟨lp,⟨q3,q4⟩,_⟩:=Ru.lk l rfl;have q4:some ({ base with state:=.busy }:Go.Loop)=some lp:=q4;cases q4;have Eu:=run_endRound (P:=P) yR q3;have heq:({ ({ base with state:=.busy }:Go.Loop) with state:=if yR.isNone then .ready else .done,pending:=yR }:Go.Loop)=iT base g:=EN.symm;obtain⟨L6,L7,z1,z2,z3,z4,z5,z6⟩:=zk yt CX hc hE hh e7 (g:=g) (by cases g<;>rfl) Ru vr (Tr.trans TO J4);rw[heq]at Eu;exact⟨_,_,Eu,_,rfl,_,h,(g,L6),L7,F5,hQ L6,z1,by rw[hv];exact rfl,z2,z3,z4,z5,z6⟩
   cases NF with
   | normal=>
    obtain⟨x',ER,vr,hQ⟩:=fj;exact fin (.go x') none true rfl rfl ER vr hQ
   | ret=>
    obtain⟨hd,s',ER,vr,hQ⟩:=fj;exact fin (.done .ret hd s') (some .ret) false rfl rfl ER vr hQ
   | exit i=>
    obtain⟨hd,s',ER,vr,hQ⟩:=fj;exact fin (.done (.exit i) hd s') (some (.exit i)) false rfl rfl ER vr hQ
end
def xE(c1 c2:Nat)(tb:List Nat)(e:Env)(h:av):Bool:=
 e8 tb&&se (fun i=>Nat.blt i 1000000) tb&&Nat.ble 1000000 c1&&Nat.ble (c1+tb.length) 2000000&&Nat.ble 1000000 c2&&Nat.ble (c2+64) 2000000&&se (fun k=>!bc c2 64 (c1+k)) (List.range tb.length) &&
  se (fun i=>sy tb i||(Nat.ble 1000000 i&&Nat.blt i 2000000 && !bc c1 tb.length i && !bc c2 64 i)) (fv e) &&
  se (fun i=>!bc c1 tb.length i) (bT h)
section
variable {c1 : Nat} {tb : List Nat}
theorem z9{k i:Nat}(h:tb[k]?=some i):pC c1 tb (c1+k)=i:=by
 unfold pC;rw[Nat.ble_eq_true_of_le (Nat.le_add_right c1 k),Nat.add_sub_cancel_left,h]
theorem sK{i:Nat}(h:bc c1 tb.length i=false):pC c1 tb i=i:=by
 unfold pC;split
 ·rename_i hb
  have hb:=Nat.le_of_ble_eq_true hb;have:tb[i-c1]?=none:=by
   rw[List.getElem?_eq_none_iff];rcases Nat.lt_or_ge (i-c1) tb.length with eC|DC
   ·rw[show bc c1 tb.length i=true from by rw[eM];omega]at h;cases h
   ·exact DC
  rw[this]
 ·rfl
theorem Ba{k i:Nat}(hn:tb.Nodup)(h:tb[k]?=some i):oM c1 tb i=c1+k:=by
 unfold oM
 cases hx:idx tb c1 i with
 | none=>exact absurd (List.mem_of_getElem? h) (yN hx)
 | some j=>
  obtain⟨h1,h2⟩:=uf hx;have:=ri hn h2 h;show j=c1+k;omega
theorem qR{i:Nat}(h:i∉tb):oM c1 tb i=i:=by
 unfold oM
 cases hx:idx tb c1 i with
 | none=>rfl
 | some j=>exact absurd (List.mem_of_getElem? (uf hx).2) h
end
mutual
theorem rX{R:Nat->Nat}:∀ (v:V) (i:Nat),i∈bq (az (fG R) v) -> ∃ j∈bq v,i=R j
 | .d _,i,h=>by cases h
 | .agg cs,i,h=>jr cs i h
 | .tup cs,i,h=>jr cs i h
 | .clo _ cs,i,h=>jr cs i h
 | .ptr j _,i,h=>⟨j,by simp[bq],by simpa[az,fG,bq]using h⟩
 | .ep j _ _ _,i,h=>⟨j,by simp[bq],by simpa[az,fG,bq]using h⟩
 | .sl j _ _ _,i,h=>⟨j,by simp[bq],by simpa[az,fG,bq]using h⟩
 | .mp j,i,h=>⟨j,by simp[bq],by simpa[az,fG,bq]using h⟩
 | .it j,i,h=>⟨j,by simp[bq],by simpa[az,fG,bq]using h⟩
 | .yld,i,h=>by cases h
 | .unk,i,h=>by cases h
theorem jr{R:Nat->Nat}:∀ (vs:List V) (i:Nat),i∈bm (ca (fG R) vs) -> ∃ j∈bm vs,i=R j
 | [],i,h=>by cases h
 | v::r,i,h=>by
  rcases List.mem_append.1 (show i∈bq (az (fG R) v)++bm (ca (fG R) r) from h) with h|h
  ·obtain⟨j,hj,rfl⟩:=rX v i h
   exact⟨j,List.mem_append.2 (.inl hj),rfl⟩
  ·obtain⟨j,hj,rfl⟩:=jr r i h
   exact⟨j,List.mem_append.2 (.inr hj),rfl⟩
end
section
variable {P : Program} {T : dM} {ft : FT} {α σ : Type} {Y : Hd σ}
theorem gK.wk{g:Operand}{ps:Array Tmp}{a b:Code}{st st':St σ}{K:ew->St σ->Prop}(hw:Wk st st')(h:gK P ft Y g ps a b st' K):gK P ft Y g ps a b st K:=by
 obtain⟨h⟩:=h;exact⟨zJ.wk hw h⟩
theorem zR(hT:bj P T){g:Operand}{ps:Array Tmp}{a b:Code}(IC:cY P T ft a)(ID:cY P T ft b){f:FuncId}{bS:List D}{e:Env}{h:av}{s:σ}{K:ew->St σ->Prop}(Lj:aM e g=some (.d (.clo f bS)))
  (c1 c2:Nat) (tb:List Nat) (I:α->av×σ) (x0:α) (oy:xE c1 c2 tb e h=true) (hI:I x0=(dQ (oM c1 tb) h,s)) (EL:G6 c2 tb (I x0).1=true)
  (hf:∀ L,zG P (yV (pr P T ft Y I ps a b (sC (oM c1 tb) e) c2 tb)) f (.yld::inj bS) [] (.go x0,L) fun v h' g=>h' = []/\match g.1 with
   | .go x=>K .normal ⟨e,dQ (pC c1 tb) (I x).1,(I x).2⟩
   | .done ex hd s'=>K ex ⟨e,dQ (pC c1 tb) hd,s'⟩):gK P ft Y g ps a b ⟨e,h,s⟩ K:=by
 constructor;intro cx hY r m L F aa w hg hc;simp only[codeOk,Bool.and_eq_true]at hc;obtain⟨⟨GN,OZ⟩,O0⟩:=hc;have GN:∀ p∈ps.toList,p<aa.tmps.size:=fun p hp=>of_decide_eq_true (List.all_eq_true.1 GN p hp);simp only[xE,Bool.and_eq_true]at oy;obtain⟨⟨⟨⟨⟨⟨⟨⟨k1,k2⟩,k3⟩,k4⟩,k5⟩,k6⟩,k7⟩,k8⟩,k9⟩:=oy;have pF:=gC k1;have Ji:∀ i∈tb,i<1000000:=fun i hi=>Nat.le_of_ble_eq_true (fN k2 i hi);have k3:=Nat.le_of_ble_eq_true k3;have k4:=Nat.le_of_ble_eq_true k4;have k5:=Nat.le_of_ble_eq_true k5;have k6:=Nat.le_of_ble_eq_true k6;have k7:∀ k,k<tb.length->bc c2 64 (c1+k)=false:=fun k hk=>by
  have:=fN k7 k (List.mem_range.2 hk);simpa using this
 have k8:∀ i∈fv e,i∈tb\/(pinned i/\bc c1 tb.length i=false/\bc c2 64 i=false):=by
  intro i hi;have:=fN k8 i hi;simp only[Bool.or_eq_true,Bool.and_eq_true,Bool.not_eq_true']at this;exact this.imp fW.1 fun h=>⟨⟨Nat.le_of_ble_eq_true h.1.1.1,Nat.le_of_ble_eq_true h.1.1.2⟩,h.1.2,h.2⟩
 have k9:∀ i∈bT h,bc c1 tb.length i=false:=fun i hi=>by simpa using fN k9 i hi
 have LR:∀ i∈tb,bc c1 tb.length i=false:=fun i hi=>by
  cases hr:bc c1 tb.length i with
  | false=>rfl
  | true=>rw[eM]at hr;have:=Ji i hi;omega
 have IP:∀ i,bc c1 tb.length i=false->pC c1 tb (oM c1 tb i)=i:=by
  intro i hi;by_cases hm:i∈tb
  ·obtain⟨k,hk⟩:=List.mem_iff_getElem?.1 hm
   rw[Ba pF hk,z9 hk]
  ·rw[qR hm,sK hi]
 have Tg:∀ i,i∉tb->oM c1 tb (pC c1 tb i)=i:=by
  intro i hi
  cases hr:bc c1 tb.length i with
  | false=>rw[sK hr,qR hi]
  | true=>
   rw[eM]at hr;obtain⟨k,hk⟩:∃ k,i=c1+k:=⟨i-c1,by omega⟩;obtain⟨y,hy⟩:∃ y,tb[k]?=some y:=⟨_,List.getElem?_eq_getElem (by omega)⟩;rw[hk,z9 hy,Ba pF hy]
 have HQ:∀ i∈fv e,bc c1 tb.length i=false:=fun i hi=>(k8 i hi).elim (LR i) (fun h=>h.2.1);have hE:∀ i∈fv (sC (oM c1 tb) e),pinned i/\bc c2 64 i=false:=by
  have PT:∀ (e:Env),∀ i∈fv (sC (oM c1 tb) e),∃ j∈fv e,i=oM c1 tb j:=by
   intro e
   induction e with
   | nil=>intro i hi;cases hi
   | cons kv r ih=>
    obtain⟨k,v⟩:=kv;intro i hi;rcases List.mem_append.1 hi with hi|hi
    ·obtain⟨j,hj,rfl⟩:=rX v i hi
     exact⟨j,List.mem_append.2 (.inl hj),rfl⟩
    ·obtain⟨j,hj,rfl⟩:=ih i hi
     exact⟨j,List.mem_append.2 (.inr hj),rfl⟩
  intro i hi;obtain⟨j,hj,rfl⟩:=PT e i hi;rcases k8 j hj with hm|⟨h1,h2,h3⟩
  ·obtain⟨k,hk⟩:=List.mem_iff_getElem?.1 hm
   have eC:=(List.getElem?_eq_some_iff.1 hk).1;rw[Ba pF hk];exact⟨by unfold pinned;omega,k7 k eC⟩
  ·have:j∉tb:=fun hm=>by have:=Ji j hm;unfold pinned at h1;omega
   rw[qR this];exact⟨h1,h3⟩
 obtain⟨lc,cP,jM⟩:=hg.aM Lj;have Sa:(I x0).1=dQ (oM c1 tb) h:=by rw[hI]
 have M7:(I x0).2=s:=by rw[hI]
 refine wpIn_rangeFunc fun fn _=>?_;have enter:∃ (base:Go.Loop) (l:Nat) (mk:List Nat) (W1:World),(Instr.enterLoop fn aa.tmps ps a b r).run P w = .ok (l,mk.map mark) W1/\(base.params=ps/\base.assign=a/\base.body=b/\base.tmps=aa.tmps/\base.state = .ready/\base.pending=none) /\
   W1.heap[l]?=some (.loop base)/\w.heap.size<=l/\(∀ x,x<w.heap.size->W1.heap[x]?=w.heap[x]?)/\Tr F w F W1/\w.heap.size<=W1.heap.size/\mk.Nodup /\ ∀ x∈mk,w.heap.size<=x/\W1.heap[x]?=some (.deferred (some [])):=by
  cases r with
  | none=>
   refine⟨{ state:=.ready,pending:=none,fn,tmps:=aa.tmps,params:=ps,assign:=a,body:=b,defers:=w.heap.size },_,[w.heap.size],_,run_enterLoop_outer fn aa.tmps ps a b,⟨rfl,rfl,rfl,rfl,rfl,rfl⟩,?_,by omega,fun x hx=>?_,Tr.trans (Tr.alloc hg.heap.fresh _) (Tr.alloc (fun b hb=>hg.heap.fresh b (by simp at hb;omega)) _),by simp;omega,by simp,fun x hx=>?_⟩
   ·have:=World.alloc_heap_new (w.alloc (.deferred (some []))) (.loop { state:=.ready,pending:=none,fn,tmps:=aa.tmps,params:=ps,assign:=a,body:=b,defers:=w.heap.size })
    rwa [World.size_alloc]at this
   ·rw[heap_alloc_old _ _ (by simp;omega),heap_alloc_old _ _ hx]
   ·rw[List.mem_singleton]at hx
    subst hx;exact⟨Nat.le_refl _,by rw[heap_alloc_old _ _ (by simp)];exact World.alloc_heap_new w _⟩
  | some l0=>
   obtain⟨lp,⟨q1,_⟩,_⟩:=hg.lk l0 rfl;refine⟨{ state:=.ready,pending:=none,fn,tmps:=aa.tmps,params:=ps,assign:=a,body:=b,defers:=lp.defers },_,[],_,run_enterLoop_inner q1 fn aa.tmps ps a b,⟨rfl,rfl,rfl,rfl,rfl,rfl⟩,World.alloc_heap_new w _,Nat.le_refl _,fun x hx=>heap_alloc_old _ _ hx,Tr.alloc hg.heap.fresh _,by simp,List.nodup_nil,fun x hx=>by cases hx⟩
 obtain⟨base,l,mk,W1,oa,⟨n9,mI,DA,M9,OW,OX⟩,hl,SP,hold,vh,PZ,GH,PC⟩:=enter;have db:=hg.E7 vh (fun x hx=>⟨hold x hx,rfl⟩) (fun x hx=>hg.heap.fresh x (Nat.le_trans PZ hx));have CX:r≠some l:=by
  rintro rfl;obtain⟨lp,⟨q1,_⟩,_⟩:=hg.lk l rfl;have:=bL q1;omega
 let L1:Loc:=⟨fun j=>L.ρ (pC c1 tb j),fun j=>L.κ (pC c1 tb j)⟩
 have KV:∀ i,bc c1 tb.length i=false->L1.ρ (oM c1 tb i)=L.ρ i/\L1.κ (oM c1 tb i)=L.κ i:=fun i hi=>by
  show L.ρ (pC c1 tb (oM c1 tb i))=L.ρ i/\L.κ (pC c1 tb (oM c1 tb i))=L.κ i;rw[IP i hi];exact⟨rfl,rfl⟩
 have I3:∀ x,w.heap.size<=x->¬ cx.C s x:=fun x hx hC=>by have:=hg.heap.iW x hC;omega
 have tR:iT base (RS.go x0:RS α σ)=base:=by
  cases base;simp only at OW OX;subst OW;subst OX;rfl
 have yt:Ik cx I l (mk++m) r base (sC (oM c1 tb) e) aa.tmps c2 tb L1.ρ L1.κ F W1 (.go x0,L1) W1 F:=by
  refine⟨?_,⟨by rw[tR];exact hl,by show ¬ cx.C (I x0).2 l;rw[M7];exact I3 l SP⟩,fun x hx=>?_,fun l0 h0=>?_,fun t v ht=>?_,fun _ _=>⟨rfl,rfl⟩,Tr.refl F W1,EL⟩
  ·show bo cx L1 F (I x0).1 (I x0).2 W1
   rw[Sa,M7];exact db.heap.kY fun i hi=>KV i (k9 i hi)
  ·show _/\¬ cx.C (I x0).2 x
   rw[M7];rcases List.mem_append.1 hx with hx|hx
   ·exact⟨(PC x hx).2,I3 x (PC x hx).1⟩
   ·exact db.oe x hx
  ·show ∃ lp,_/\¬ cx.C (I x0).2 l0
   rw[M7];exact db.lk l0 h0
  ·simp only[sC,bl]at ht
   cases h0:get e t with
   | none=>simp[h0]at ht
   | some v0=>
    simp[h0]at ht;subst ht;obtain⟨x,hx,hr⟩:=db.env t v0 h0;exact⟨x,hx,(a6.kY (R:=oM c1 tb) (L:=L) (L':=L1) v0 x fun i hi=>KV i (HQ i (gO h0 hi))).2 hr⟩
 have KT:bo (eU cx I l (mk++m) r base (sC (oM c1 tb) e) aa.tmps c2 tb L1.ρ L1.κ F W1) L1 F [] (.go x0,L1) W1:=by
  refine⟨yt,fun x hx=>?_,db.heap.fresh,(fun _ _ h=>by cases h),(fun _ _ h=>by cases h),(fun _ _ _ _ h=>by cases h)⟩;rcases hx with hx|⟨id,o,hi,hb,hx⟩|hx|hx|hx
  ·exact yt.heap.iW x hx
  ·rw[<- hx];exact(yt.heap.obj id o hi).lt hb
  ·rw[hx];exact bL hl
  ·exact bL (yt.oe x hx).1
  ·obtain⟨lp,⟨q1,_⟩,_⟩:=yt.out x hx;exact bL q1
 have dH:=(hf L1).run _ (vA hT IC ID hY CX n9 mI DA M9 ⟨OW,OX⟩ GN hg.sD OZ O0 ⟨k5,k6⟩ hE) L1 F (#[.func (.yield l) #[] #[]]++lc) W1 KT (by
  show aq (some l) L1 F W1 (.yld::inj bS) _;refine⟨.func (.yield l) #[] #[],lc.toList,by simp,⟨l,rfl,rfl⟩,aq.inj.2 (aY.mono vh bS _ jM)⟩)
 refine⟨l,mk.map mark,W1,{ target:=.fn (.func f) lc,args:=#[.func (.yield l) #[] #[]] },W1,f,#[.func (.yield l) #[] #[]]++lc,W1,oa,?_,fun _ _=>trivial,?_,(fun h=>by cases h),?_⟩
 ·simp only[resolve,cP]
  simp[go_sem]
 ·simp[invoke,go_sem,(hf L1).enter]
 refine(ib dH).mono ?_;rintro en w' ⟨x,rfl,v,h',gs,L',F',⟨rfl,hK⟩,hH,hv,tr,lG⟩;obtain⟨gg,L2⟩:=gs;obtain⟨i1,i2,i3,i4,i5,i6,i7,i8⟩:=hH.hg;have SW:(iT base gg).state ≠ .busy:=by cases gg<;>(intro h;cases h)
 have Eu:=run_endLoop (P:=P) i2.1 SW;obtain⟨W4,OS⟩:∃ W4,W4=w'.putObj l (.loop { iT base gg with state:=.exhausted }):=⟨_,rfl⟩;rw[<- OS]at Eu;have J4:Tr F' w' F' W4:=by rw[OS];exact Tr.NB i2.1 (fun _ _ _ h=>by cases h) (fun _ _ h=>by cases h) (fun _ _ _ h=>by cases h)
 have Nh:∀ y,y≠l->W4.heap[y]?=w'.heap[y]?:=fun y hy=>by rw[OS];exact World.putObj_heap_other hy
 have h4:=i1.G0 J4 (fun b hb=>i1.fresh b (Nat.le_trans J4.size hb)) (fun b hb=>⟨Nh b (by rintro rfl;exact i2.2 hb),rfl⟩) (fun id o hi hb=>⟨Nh _ (fun e=>(bG.qy (i1.obj id o hi) hb (by rw[e];exact i2.1)).1 _ rfl),rfl⟩)
 let L3:Loc:=⟨fun i=>if i∈tb then L2.ρ (oM c1 tb i) else if bc c1 tb.length i then cx.pρ i else L2.ρ i,fun i=>if i∈tb then L2.κ (oM c1 tb i) else if bc c1 tb.length i then cx.pκ i else L2.κ i⟩
 have ON:∀ i,bc c1 tb.length i=false->L3.ρ i=L2.ρ (oM c1 tb i)/\L3.κ i=L2.κ (oM c1 tb i):=by
  intro i hi;by_cases hm:i∈tb
  ·simp[L3,hm]
  ·simp[L3,hm,hi,qR hm]
 have OP:∀ i,i∉tb->L3.ρ (pC c1 tb i)=L2.ρ i/\L3.κ (pC c1 tb i)=L2.κ i:=by
  intro i hi;have:bc c1 tb.length (pC c1 tb i)=false:=by
   cases hr:bc c1 tb.length i with
   | false=>rw[sK hr];exact hr
   | true=>
    rw[eM]at hr;obtain⟨k,hk⟩:∃ k,i=c1+k:=⟨i-c1,by omega⟩;obtain⟨y,hy⟩:∃ y,tb[k]?=some y:=⟨_,List.getElem?_eq_getElem (by omega)⟩;rw[hk,z9 hy];exact LR y (List.mem_of_getElem? hy)
  obtain⟨q1,q2⟩:=ON _ this;rw[Tg i hi]at q1 q2;exact⟨q1,q2⟩
 have GK:=qz i8;have qc:Good cx r (mk++m) L3 F' ⟨e,dQ (pC c1 tb) (gg.heap I),gg.st I⟩ { aa with defers:=mk.map mark++aa.defers } W4:=by
  refine⟨h4.kY fun i hi=>OP i (GK i hi).2,fun t v ht=>?_,?_,fun x hx=>?_,?_,fun l0 h0=>?_,fun i hi=>?_,hg.sD⟩
  ·obtain⟨x,hx,hr⟩:=i5 t (az (fG (oM c1 tb)) v) (by
    have ht:get e t=some v:=ht;simp only[sC,bl,ht];rfl)
   refine⟨x,hx,a6.mono J4 v x (fun _ _=>⟨rfl,rfl⟩) ((a6.kY (R:=oM c1 tb) (L:=L3) (L':=L2) v x fun i hi=>?_).1 hr)⟩;obtain⟨q1,q2⟩:=ON i (HQ i (gO ht hi));exact⟨q1.symm,q2.symm⟩
  ·show mk.map mark++aa.defers=(mk++m).map mark++cx.base
   rw[hg.sI,List.map_append,List.append_assoc]
  ·obtain⟨q1,q2⟩:=i3 x hx
   exact⟨by rw[Nh x (by rintro rfl;rw[i2.1]at q1;cases q1)];exact q1,q2⟩
  ·rw[List.nodup_append]
   refine⟨GH,hg.uy,fun x hx y hy e=>?_⟩;have h1:=(PC x hx).1;have h2:=bL (hg.oe y hy).1;omega
  ·obtain⟨lp,⟨q1,q2⟩,q3⟩:=i4 l0 h0
   exact⟨lp,⟨by rw[Nh l0 (by rintro rfl;exact CX h0)];exact q1,q2⟩,q3⟩
  ·have hm:i∉tb:=fun hm=>by have:=Ji i hm;unfold pinned at hi;omega
   cases hr:bc c1 tb.length i with
   | true=>simp[L3,hm,hr]
   | false=>
    obtain⟨q1,q2⟩:=ON i hr;rw[qR hm]at q1 q2;obtain⟨q3,q4⟩:=i6 i hi;have q5:L1.ρ i=L.ρ i/\L1.κ i=L.κ i:=by
     show L.ρ (pC c1 tb i)=L.ρ i/\L.κ (pC c1 tb i)=L.κ i;rw[sK hr];exact⟨rfl,rfl⟩
    obtain⟨q6,q7⟩:=hg.lG i hi;exact⟨q1.trans (q3.trans (q5.1.trans q6)),q2.trans (q4.trans (q5.2.trans q7))⟩
 have Nv:Tr F w F' W4:=Tr.trans vh (Tr.trans tr J4);refine⟨_,W4,Eu,?_⟩
 cases gg with
 | go x=>
  exact .inl ⟨.normal,_,mk++m,L3,F',rfl,hK,qc,Nv,rfl⟩
 | done ex hd s'=>
  cases ex with
  | normal=>exact wpIn_skip (.inl ⟨.normal,_,mk++m,L3,F',rfl,hK,qc,Nv,rfl⟩)
  | ret=>exact wpIn_ret (.inl ⟨.ret,_,mk++m,L3,F',rfl,hK,qc,Nv,rfl⟩)
  | exit i=>exact wpIn_exit (.inl ⟨.exit i,_,mk++m,L3,F',rfl,hK,qc,Nv,rfl⟩)
end
end Go.PX
namespace Go.PX
open Go.RowKit
def iterate{γ:Type}(Y:Hd γ):List (List V×av)->γ->(γ->Prop)->Prop
 | [],g,Q=>Q g
 | (args,h)::r,g,Q=>Y.y args h g fun v h' g'=>h'=h/\((v = .d (.bool true)/\iterate Y r g' Q)\/(v = .d (.bool false)/\Q g'))
def Yields(P:Program)(f:FuncId)(bS:List D)(l:List (List V×av)):Prop:=
 ∀ {γ:Type} (Y:Hd γ) (g:γ) (Q:γ->Prop),iterate Y l g Q->zG P Y f (.yld::inj bS) [] g fun v h' g'=>h' = []/\Q g'
theorem pc{γ:Type}{Y:Hd γ}:∀ (l:List (List V×av)),iterate Y.np l=iterate Y l
 | []=>rfl
 | x::r=>by
  funext g Q
  show(Y.y x.1 x.2 g fun v h' g'=>h'=x.2/\((v = .d (.bool true)/\iterate Y.np r g' Q)\/(v = .d (.bool false)/\Q g')))=_;rw[pc r];rfl
theorem iterate.np{γ:Type}{Y:Hd γ}{l:List (List V×av)}{g:γ}{Q:γ->Prop}(h:iterate Y l g Q):iterate Y.np l g Q:=by rw[pc];exact h
section
variable {P : Program} {T : dM} {ft : FT} {α σ : Type} {Y : Hd σ}
def Fa(tb:List Nat)(h:av):av:=match tb with
 | []=>[]
 | i::r=>match get h i with
  | some o=>(i,o)::Fa r h
  | none=>Fa r h
theorem qE{h:av}{k:Nat}{v:Obj}:∀ {tb:List Nat},get (Fa tb h) k=some v->get h k=some v
 | [],hk=>by cases hk
 | i::r,hk=>by
  rw[Fa]at hk;split at hk
  ·rename_i o ho
   rw[aF]at hk;split at hk
   ·rename_i e
    subst e;rw[ho];exact hk
   ·exact qE hk
  ·exact qE hk
def De(tb:List Nat)(z:av):av->av
 | []=>z
 | (i,o)::r=>match tb.any fun k=>Nat.beq k i with
  | true=>De tb z r
  | false=>(i,o)::De tb z r
theorem y8{tb:List Nat}{z:av}{k:Nat}:∀ {h:av},get (De tb z h) k=if (tb.any fun i=>Nat.beq i k)=true then get z k else (match get h k with
 | some v=>some v
 | none=>get z k)
 | []=>by simp[De,get]
 | (i,o)::r=>by
  have ih:=y8 (tb:=tb) (z:=z) (k:=k) (h:=r);rw[De];split
  ·rename_i hi
   rw[ih,aF];by_cases hk:(tb.any fun j=>Nat.beq j k)=true
   ·rw[if_pos hk,if_pos hk]
   ·rw[if_neg hk,if_neg hk,if_neg (fun e=>hk (by rw[e];exact hi))]
  ·rename_i hi
   rw[aF,aF];by_cases e:k=i
   ·subst e
    rw[if_pos rfl,if_pos rfl,if_neg (by rw[hi];simp)]
   ·rw[if_neg e,if_neg e,ih]
def E8(tb:List Nat)(h:av):av:=De tb (Fa tb h) h
theorem E9{h:av}{k:Nat}{v:Obj}{tb:List Nat}(hk:get (E8 tb h) k=some v):get h k=some v:=by
 unfold E8 at hk;rw[y8]at hk;split at hk
 ·exact qE hk
 ·split at hk
  ·rename_i he;rw[he];exact hk
  ·exact qE hk
theorem Wk.ord{e:Env}{h:av}{s:σ}(tb:List Nat):Wk (⟨e,h,s⟩:St σ) ⟨e,E8 tb h,s⟩:=
 fun cx r m L F a w hg=>⟨L,F,hg.sub (fun _ _ hv=>hv) (fun _ _ hv=>E9 hv),Tr.refl F w⟩
theorem wX(hT:bj P T){g:Operand}{ps:Array Tmp}{a b:Code}(IC:cY P T ft a)(ID:cY P T ft b){f:FuncId}{bS:List D}{e:Env}{h:av}{s:σ}{K:ew->St σ->Prop}(Lj:aM e g=some (.d (.clo f bS)))
  (c1 c2:Nat) (tb:List Nat) {β:Type} {items:List β} {arg:β->List V} {hp:β->av} (hf:Yields P f bS (items.map fun b=>(arg b,hp b)))
  (I:α->av×σ) (J:List β->α->Prop) (x0:α) (oy:xE c1 c2 tb e h=true) (hI:I x0=(dQ (oM c1 tb) h,s)) (EL:G6 c2 tb (I x0).1=true) (OL:J items x0)
  (round:∀ it rest x,J (it::rest) x -> ∀ (Q:V->av->RS α σ->Prop),(∀ x',J rest x'->Q (.d (.bool true)) (hp it) (.go x'))->(∀ ex hd s',K ex ⟨e,dQ (pC c1 tb) hd,s'⟩->Q (.d (.bool false)) (hp it) (.done ex hd s')) ->
   (pr P T ft Y I ps a b (sC (oM c1 tb) e) c2 tb).y (arg it) (hp it) (.go x) Q)
  (fin:∀ x,J [] x->K .normal ⟨e,dQ (pC c1 tb) (I x).1,(I x).2⟩):gK P ft Y g ps a b ⟨e,h,s⟩ K:=by
 refine zR hT IC ID Lj c1 c2 tb I x0 oy hI EL fun L=>hf (yV (pr P T ft Y I ps a b (sC (oM c1 tb) e) c2 tb)) (RS.go x0,L) (fun g=>match g.1 with
   | .go x=>K .normal ⟨e,dQ (pC c1 tb) (I x).1,(I x).2⟩
   | .done ex hd s'=>K ex ⟨e,dQ (pC c1 tb) hd,s'⟩) ?_
 have key:∀ (l:List β) (x:α) (L:Loc),J l x->iterate (yV (pr P T ft Y I ps a b (sC (oM c1 tb) e) c2 tb)) (l.map fun b=>(arg b,hp b))  (RS.go x,L) (fun g=>match g.1 with
   | .go x=>K .normal ⟨e,dQ (pC c1 tb) (I x).1,(I x).2⟩
   | .done ex hd s'=>K ex ⟨e,dQ (pC c1 tb) hd,s'⟩):=by
  intro l
  induction l with
  | nil=>exact fun x L hj=>fin x hj
  | cons it rest ih=>
   intro x L hj
   exact round it rest x hj (fun v h' g'=>∀ L',h'=hp it/\((v = .d (.bool true)/\iterate (yV (pr P T ft Y I ps a b (sC (oM c1 tb) e) c2 tb)) (rest.map fun b=>(arg b,hp b)) (g',L') (fun g=>match g.1 with
   | .go x=>K .normal ⟨e,dQ (pC c1 tb) (I x).1,(I x).2⟩
   | .done ex hd s'=>K ex ⟨e,dQ (pC c1 tb) hd,s'⟩))\/(v = .d (.bool false)/\(match g' with
   | .go x=>K .normal ⟨e,dQ (pC c1 tb) (I x).1,(I x).2⟩
   | .done ex hd s'=>K ex ⟨e,dQ (pC c1 tb) hd,s'⟩)))) (fun x' yA L'=>⟨rfl,.inl ⟨rfl,ih x' L' yA⟩⟩) (fun ex hd s' hk L'=>⟨rfl,.inr ⟨rfl,hk⟩⟩)
 exact key items x0 L OL
theorem fp(hT:bj P T){g:Operand}{ps:Array Tmp}{a b:Code}(IC:cY P T ft a)(ID:cY P T ft b){f:FuncId}{bS:List D}{e:Env}{h:av}{s:σ}{K:ew->St σ->Prop}(Lj:aM e g=some (.d (.clo f bS)))
  (c1 c2:Nat) (tb:List Nat) {β:Type} {items:List β} {arg:β->List V} {hp:β->av} (hf:Yields P f bS (items.map fun b=>(arg b,hp b)))
  (I:α->av×σ) (J:List β->α->Prop) (x0:α) (oy:xE c1 c2 tb e (E8 tb h)=true) (hI:I x0=(dQ (oM c1 tb) (E8 tb h),s)) (EL:G6 c2 tb (I x0).1=true) (OL:J items x0)
  (round:∀ it rest x,J (it::rest) x -> ∀ (Q:V->av->RS α σ->Prop),(∀ x',J rest x'->Q (.d (.bool true)) (hp it) (.go x'))->(∀ ex hd s',K ex ⟨e,dQ (pC c1 tb) hd,s'⟩->Q (.d (.bool false)) (hp it) (.done ex hd s')) ->
   (pr P T ft Y I ps a b (sC (oM c1 tb) e) c2 tb).y (arg it) (hp it) (.go x) Q)
  (fin:∀ x,J [] x->K .normal ⟨e,dQ (pC c1 tb) (I x).1,(I x).2⟩):gK P ft Y g ps a b ⟨e,h,s⟩ K:=gK.wk (Wk.ord tb) (wX hT IC ID Lj c1 c2 tb hf I J x0 oy hI EL OL round fin)
end
end Go.PX
namespace Go.PX
theorem ai{α:Type}{l:List α}{f:α->List D}{i:Nat}{x:α}{K:List D->Prop}(hx:l[i]?=some x)(k:K (f x)):vQ (l.map f) (i:Int) K:=
 fQ (f x) (by simp[hx]) k
theorem aV{g:Nat->Option DO}{v:V}{r:List V}{d:D}{l:List D}(h1:eP g v=some d)(h2:cS g r=some l):cS g (v::r)=some (d::l):=by
 rw[cS,h1,h2]
theorem bI{h:av}{k id sz n:Nat}{es:List (List D)}(hg:get h id=some (.arr sz (.dd es)))(hn:n=es.length):eP (fm h (k+1)) (.sl id sz 0 n)=some (.vs es):=by
 have h1:Nat.beq sz sz=true:=Nat.beq_refl sz;have h2:Nat.ble (0+es.length) es.length=true:=Nat.ble_eq_true_of_le (by omega);subst hn;simp only[eP,fm,hg,h1,h2,List.drop_zero,List.take_length]
section
variable {P : Program} {T : dM} {σ : Type} {Y : Hd σ}
theorem F8{ft:FT}{c:Code}{α:Type}(I:α->St σ)(Pr:α->Prop)(μ:α->Nat)(x0:α){st:St σ}{K:ew->St σ->Prop}(h0:Wk st (I x0))(p0:Pr x0)
  (round:∀ x,Pr x->zJ P Y c (I x) fun e st'=>match e with
   | .normal=>∃ y,μ y<μ x/\Pr y/\Wk st' (I y)
   | e=>K e st'):x4 P ft Y c st K:=by
 refine⟨zJ.wk h0 ?_⟩;intro cx hY r m0 L0 F0 a w hg hc;have hc:codeOk a.tmps.size c=true:=hc
 let J:Act->World->α->Prop:=fun a' w' x=>Pr x /\ ∃ m L F,Good cx r m L F (I x) a' w'/\Tr F0 w F w'/\a'.tmps.size=a.tmps.size
 let M:Act->World->Nat:=fun a' w'=>wH fun n=>∃ x,J a' w' x/\μ x=n
 refine wpIn_loop (fun a' w'=>∃ x,J a' w' x) M ⟨x0,p0,m0,L0,F0,hg,Tr.refl F0 w,rfl⟩ fun a' w' hJ=>?_;obtain⟨x,⟨hp,m,L,F,dY,tr,hs⟩,hx⟩:=wI (p:=fun n=>∃ x,J a' w' x/\μ x=n) (by obtain⟨x,hx⟩:=hJ;exact⟨μ x,x,hx,rfl⟩);refine wpIn_mono (round x hp cx hY r m L F a' w' dY (by rw[hs];exact hc)) fun ex Hz B9 hq=>?_;rcases hq with⟨e',oh,m1,L1,F1,rfl,h2,h3,h4,h5⟩|JU
 case inr=>
  have I7:=JU;obtain⟨v,pe,ph,ps,m',L',F',rfl,_⟩:=JU;exact .inr (I7.trans tr hs)
 cases e' with
 | normal=>
  obtain⟨y,hy,PQ,ER⟩:=h2;obtain⟨L2,F2,iX,DG⟩:=ER cx r m1 L1 F1 Hz B9 h3;have KU:J Hz B9 y:=⟨PQ,m1,L2,F2,iX,Tr.trans tr (Tr.trans h4 DG),h5.trans hs⟩;refine⟨⟨y,KU⟩,?_⟩;have:M Hz B9<=μ y:=zp ⟨y,KU,rfl⟩;have hx:μ x=M a' w':=hx;omega
 | exit i=>exact .inl ⟨.exit i,oh,m1,L1,F1,rfl,h2,h3,Tr.trans tr h4,h5.trans hs⟩
 | ret=>exact .inl ⟨.ret,oh,m1,L1,F1,rfl,h2,h3,Tr.trans tr h4,h5.trans hs⟩
theorem zJ.mono{c:Code}{st:St σ}{K1 K2:ew->St σ->Prop}(hw:zJ P Y c st K1)(h:∀ e st,K1 e st->K2 e st):zJ P Y c st K2:=by
 intro cx hY r m L F a w hg hc;refine wpIn_mono (hw cx hY r m L F a w hg hc) fun ex a' w' hq=>?_;rcases hq with⟨e',st',m',L',F',h1,h2,h3⟩|hp
 ·exact .inl ⟨e',st',m',L',F',h1,h _ _ h2,h3⟩
 ·exact .inr hp
theorem bt(hT:bj P T){ft:FT}{c:Code}(hD:cY P T ft c){α β:Type}(l:List α)(I:Nat->β->St σ)(J:Nat->List α->β->Prop)(x0:β){st:St σ}{K:ew->St σ->Prop}(h0:Wk st (I 0 x0))(j0:J 0 l x0)
  (round:∀ (i:Nat) (x:α) (r:List α) (acc:β),l[i]?=some x->i<l.length->i+1+r.length=l.length->J i (x::r) acc->FI P T ft Y c (I i acc) fun e st'=>match e with
   | .normal=>∃ Gb,J (i+1) r Gb/\Wk st' (I (i+1) Gb)
   | e=>K e st')
  (fin:∀ acc,J l.length [] acc->FI P T ft Y c (I l.length acc) fun e st'=>match e with
   | .normal=>False
   | e=>K e st'):x4 P ft Y c st K:=by
 refine F8 (α:=Nat×β) (fun p=>I p.1 p.2) (fun p=>p.1<=l.length/\J p.1 (l.drop p.1) p.2) (fun p=>l.length+1-p.1) (0,x0) h0 ⟨Nat.zero_le _,by simpa using j0⟩ ?_;rintro ⟨i,acc⟩ ⟨hi,hj⟩;simp only at hi hj ⊢;by_cases eC:i<l.length
 ·have hd:l.drop i=l[i]::l.drop (i+1):=List.drop_eq_getElem_cons eC
  rw[hd]at hj;refine zJ.mono (dU hT c hD _ _ (round i l[i] (l.drop (i+1)) acc (List.getElem?_eq_getElem eC) eC (by simp;omega) hj)) fun e st' hk=>?_
  cases e with
  | normal=>
   obtain⟨Gb,h1,h2⟩:=hk;exact⟨(i+1,Gb),by simp only;omega,⟨eC,h1⟩,h2⟩
  | exit i=>exact hk
  | ret=>exact hk
 ·have he:i=l.length:=by omega
  subst he;rw[List.drop_length]at hj;refine zJ.mono (dU hT c hD _ _ (fin acc hj)) fun e st' hk=>?_
  cases e with
  | normal=>exact hk.elim
  | exit i=>exact hk
  | ret=>exact hk
end
end Go.PX
namespace Go.PX
open Go.RowKit
section
variable {σ : Type}
theorem Wk.BZ{e:Env}{h:av}{s:σ}(id:Nat){o:Obj}(o':Obj)(hg:get h id=some o)(hr:∀ (yv:Option Nat) (L:Loc) (F:Nat->Nat) (w:World),bG yv L F w id o->bG yv L F w id o')(hb:∀ L,aN L id o'->aN L id o) :
  Wk (⟨e,h,s⟩:St σ) ⟨e,put h id o',s⟩:=by
 intro cx r m L F a w hh;have key:∀ i q,get (put h id o') i=some q->(i=id/\q=o')\/get h i=some q:=by
  intro i q hi;rw[cH]at hi;split at hi
  ·rename_i e1;cases hi;exact .inl ⟨e1,rfl⟩
  ·exact .inr hi
 refine⟨L,F,⟨⟨hh.heap.hg,hh.heap.iW,hh.heap.fresh,fun i q hi=>?_,fun i q hi kO=>?_,fun i j q p hi hj kj gJ e=>?_⟩,hh.env,hh.sI,hh.oe,hh.uy,hh.lk,hh.lG,hh.sD⟩,Tr.refl F w⟩
 ·rcases key i q hi with⟨rfl,rfl⟩|hi
  ·exact hr _ _ _ _ (hh.heap.obj i o hg)
  ·exact hh.heap.obj i q hi
 ·rcases key i q hi with⟨rfl,rfl⟩|hi
  ·exact hh.heap.own i o hg (hb L kO)
  ·exact hh.heap.own i q hi kO
 ·rcases key i q hi with⟨e1,e2⟩|vp<;>rcases key j p hj with⟨e3,e4⟩|EE
  ·rw[e1,e3]
  ·subst e1;subst e2
   exact hh.heap.inj _ _ _ _ hg EE (hb L kj) gJ e
  ·subst e3;subst e4
   exact hh.heap.inj _ _ _ _ vp hg kj (hb L gJ) e
  ·exact hh.heap.inj _ _ _ _ vp EE kj gJ e
theorem Wk.shrink{e:Env}{h:av}{s:σ}(id n:Nat){sz:Nat}{es:List (List D)}(hg:get h id=some (.arr sz (.dd es))):Wk (⟨e,h,s⟩:St σ) ⟨e,put h id (.arr sz (.dd (es.take n))),s⟩:=by
 refine Wk.BZ id _ hg (fun yv L F w h=>?_) fun L hb=>hb;obtain⟨h1,h2,h3⟩:=h;have hlen:cJ sz (aO (es.take n)):=by
  intro x hx;rw[cB,List.mem_map]at hx;obtain⟨y,hy,rfl⟩:=hx;exact h2 _ (by rw[show(aC.dd es).aU=aO es from rfl,cB];exact List.mem_map_of_mem (List.mem_of_mem_take hy))
 refine⟨h1,hlen,?_⟩;rcases h3 with⟨h3,h4⟩|⟨c,T,hc,k1,k2,k3⟩
 ·left
  have:es = []:=by
   have:aO es = []:=h3
   cases es with
   | nil=>rfl
   | cons a l=>cases this
  subst this;exact⟨by simp[aC.aU,aO],h4⟩
 ·right
  have e1:(aC.dd es).aU=aO es:=rfl;have e2:(aC.dd (es.take n)).aU=(aO es).take n:=by show aO (es.take n)=_;rw[cB,cB,List.map_take]
  have e3:((aO es).take n).length<=(aO es).length:=by simp;omega
  rw[e1]at k2 k3;refine⟨c,T,hc,k1,?_,?_⟩
  ·rw[e2];exact Nat.le_trans (Nat.mul_le_mul_right _ e3) k2
  ·rw[e2]
   have:=aq.take (((aO es).take n).length*sz) k3;rw[List.take_take]at this;have PB:min (((aO es).take n).length*sz) ((aO es).length*sz)=((aO es).take n).length*sz:=Nat.min_eq_left (Nat.mul_le_mul_right _ e3);rw[PB]at this;have hl:cJ sz (aO es):=h2;have hf:(aO es).flatten.take (((aO es).take n).length*sz)=((aO es).take n).flatten:=by
    have:=fR (sz:=sz) n hl;rw[this];simp only[List.length_take];by_cases hn:n<=(aO es).length
    ·rw[Nat.min_eq_left hn]
    ·rw[Nat.min_eq_right (by omega),List.take_of_length_le (by rw[iL hl];exact Nat.le_refl _),List.take_of_length_le (by rw[iL hl];exact Nat.mul_le_mul_right _ (by omega))]
   rw[hf]at this;exact this
theorem Wk.Gg{e:Env}{h:av}{s:σ}(b k sz:Nat)(hk:Nat.blt k 1000000=true)(hs:Nat.blt 0 sz=true)(hb:get h b=some (.box (.dd [.nils])))(kO:Nat.beq b k=false) :
  Wk (⟨e,h,s⟩:St σ) ⟨cn (az (aQ k)) e,put (((k,.arr sz (.dd []))::cn (Obj.az (aQ k)) (cut h k))) b (.box (.vv [.sl k sz 0 0])),s⟩:=by
 have hk:=Nat.le_of_ble_eq_true hk;have hs:=Nat.le_of_ble_eq_true hs;have eA:b≠k:=by rintro rfl;simp at kO
 have h1:Wk (⟨e,h,s⟩:St σ) ⟨cn (az (aQ k)) e,((k,.arr sz (.dd []))::cn (Obj.az (aQ k)) (cut h k)),s⟩:=by
  intro cx r m L F a w hg;exact⟨_,F,hg.lC k sz (by unfold pinned;omega) hs (.dd []) rfl,Tr.refl F w⟩
 refine h1.trans (Wk.BZ b (o:=.box (.dd [.nils])) _ (by rw[aF,if_neg eA,bl,c0,if_neg eA,hb];rfl) (fun yv L F w h=>?_) fun L hb=>hb);obtain⟨c,T,hc,x,l',hl,hx,hr⟩:=h;have hx:x = .slice none 0 0:=hx;subst hx;exact⟨c,T,hc,_,l',hl,⟨none,0,rfl,Nat.le_refl _,hs,.inl ⟨rfl,rfl⟩⟩,hr⟩
end
theorem bg{k:IntKind}{n:Int}{K:V->Prop}(m:Int)(h:n=m)(hw:k.wrap m=m)(hK:K (.d (.int k m))):arith k n K:=by subst h;exact tn hw hK
section
variable {P : Program} {T : dM} {σ : Type} {Y : Hd σ}
theorem wS{f:FuncId}{args0:List V}{h0:av}{s:σ}{Q:V->av->σ->Prop}(hf:zG P Y f args0 h0 s Q)(tb:List Nat){e:Env}{h:av}{d:Option Nat}{args:List V}{K:St σ->Prop}
  (cr:og (br tb (d.getD 0)) args0=args) (eI:gb (br tb (d.getD 0)) h 1000000 tb h0) (pF:e8 tb=true) (rR:Nat.ble tb.length 1000=true)
  (hq:∀ v h1 s',Q v h1 s'->g7 tb d v h1=true/\bk (bZ tb d v h1) e h fun e h=>K ⟨e,h,s'⟩):eE P Y ⟨e,h,s⟩ d f args K:=by
 refine DX hf tb cr eI pF rR fun v h1 s' hv=>?_;obtain⟨h2,h3⟩:=hq v h1 s' hv;refine⟨h2,?_⟩;rw[cj s']at h3;have hs:(aK (⟨e,h,s'⟩:St σ) (bZ tb d v h1)).s=s':=cT _ _;generalize aK (⟨e,h,s'⟩:St σ) (bZ tb d v h1)=st at h3 hs;obtain⟨e1,h1,s1⟩:=st;simp only at hs;subst hs;exact h3
end
mutual
def lI:V->V->Prop
 | .d a,.d b=>a=b
 | .agg a,.agg b=>rp a b
 | .tup a,.tup b=>rp a b
 | .clo f a,.clo g b=>f=g/\rp a b
 | .ptr i o,.ptr j p=>Nat.beq i j=true/\o=p
 | .ep i s k o,.ep j t l p=>Nat.beq i j=true/\s=t/\k=l/\o=p
 | .sl i s o n,.sl j t p m=>Nat.beq i j=true/\s=t/\o=p/\n=m
 | .mp i,.mp j=>Nat.beq i j=true
 | .it i,.it j=>Nat.beq i j=true
 | .yld,.yld=>True
 | .unk,.unk=>True
 | _,_=>False
def rp:List V->List V->Prop
 | [],[]=>True
 | a::r,b::s=>lI a b/\rp r s
 | _,_=>False
end
mutual
theorem Fv:∀ (a b:V),lI a b->a=b
 | .d a,b,h=>by cases b<;>simp only[lI]at h;rw[h]
 | .agg a,b,h=>by cases b<;>simp only[lI]at h;rw[lJ _ _ h]
 | .tup a,b,h=>by cases b<;>simp only[lI]at h;rw[lJ _ _ h]
 | .clo f a,b,h=>by cases b<;>simp only[lI]at h;rw[h.1,lJ _ _ h.2]
 | .ptr i o,b,h=>by cases b<;>simp only[lI]at h;rw[Nat.eq_of_beq_eq_true h.1,h.2]
 | .ep i s k o,b,h=>by cases b<;>simp only[lI]at h;rw[Nat.eq_of_beq_eq_true h.1,h.2.1,h.2.2.1,h.2.2.2]
 | .sl i s o n,b,h=>by cases b<;>simp only[lI]at h;rw[Nat.eq_of_beq_eq_true h.1,h.2.1,h.2.2.1,h.2.2.2]
 | .mp i,b,h=>by cases b<;>simp only[lI]at h;rw[Nat.eq_of_beq_eq_true h]
 | .it i,b,h=>by cases b<;>simp only[lI]at h;rw[Nat.eq_of_beq_eq_true h]
 | .yld,b,h=>by cases b<;>simp only[lI]at h;rfl
 | .unk,b,h=>by cases b<;>simp only[lI]at h;rfl
theorem lJ:∀ (a b:List V),rp a b->a=b
 | [],[],_=>rfl
 | a::r,b::s,h=>by rw[Fv a b h.1,lJ r s h.2]
 | [],_::_,h=>h.elim
 | _::_,[],h=>h.elim
end
theorem dE{h:av}{i:Nat}{l l':List V}(h1:get h i=some (.box (.vv l)))(h2:rp l l'):get h i=some (.box (.vv l')):=by rw[h1,lJ l l' h2]
theorem dR{σ:Type}{r:List V}{h:av}{s:σ}{Q:V->av->σ->Prop}(hr:pJ (.d (.vs [])::r) h s Q):pJ (.d .nils::r) h s Q:=by
 obtain⟨hr⟩:=hr;refine⟨fun cx L F aX w hh hv=>hr cx L F aX w hh ?_⟩;obtain⟨x,l',rfl,hx,hl⟩:=hv;have hx:x = .slice none 0 0:=hx;subst hx;exact⟨_,l',rfl,⟨none,0,0,rfl,rfl,Nat.le_refl _,fun h=>absurd rfl h⟩,hl⟩
theorem da{α:Type}{n:Nat}{f:α->List D}(hf:∀ x,Nat.beq (f x).length n=true/\gi (f x)=true):∀ (l:List α),mg n (l.map f)=true
 | []=>rfl
 | x::r=>by
  simp only[List.map_cons,mg,(hf x).1,(hf x).2];exact da hf r
section
variable {P : Program} {T : dM} {σ : Type} {Y : Hd σ}
theorem eE.TQ{st:St σ}{d:Option Nat}{f:FuncId}{args:List V}{K:St σ->Prop}(h:eE P Y st d f args fun oh=>∃ rA,Wk oh rA/\K rA):eE P Y st d f args K:=by
 obtain⟨h1,h2⟩:=h;refine⟨h1,fun cx hY r m L F a w aX hg hd hr=>(h2 cx hY r m L F a w aX hg hd hr).mono ?_⟩;rintro e w' (⟨x,rfl,st',L',F',⟨rA,hw,hk⟩,dY,tr⟩|hp);case inr=>exact .inr hp
 obtain⟨L2,F2,iX,DG⟩:=hw cx r m L' F' _ w' dY;exact .inl ⟨x,rfl,rA,L2,F2,hk,iX,Tr.trans tr DG⟩
theorem Bi{f:FuncId}{args0:List V}{h0:av}{s:σ}{Q:V->av->σ->Prop}(hf:zG P Y f args0 h0 s Q)(tb:List Nat){e:Env}{h:av}{d:Option Nat}{args:List V}{K:St σ->Prop}
  (cr:og (br tb (d.getD 0)) args0=args) (eI:gb (br tb (d.getD 0)) h 1000000 tb h0) (pF:e8 tb=true) (rR:Nat.ble tb.length 1000=true)
  (hq:∀ v h1 s',Q v h1 s'->g7 tb d v h1=true/\bk (bZ tb d v h1) e h fun e h=>∃ rA,Wk ⟨e,h,s'⟩ rA/\K rA):eE P Y ⟨e,h,s⟩ d f args K:=
 eE.TQ (wS hf tb cr eI pF rR hq)
end
theorem Good.MZ{σ:Type}{e:Env}{h:av}{s:σ}(n:Nat)(ids:List Nat){cx:Cx σ}{r:Option Nat}{m:List Nat}{L:Loc}{F:Nat->Nat}{a:Act}{w:World}(hg:Good cx r m L F ⟨e,h,s⟩ a w) :
  ∃ F1,Good cx r m L F1 ⟨cn (eB (fm (aP ids h) n)) e,cn (jo (fm (aP ids h) n)) (kJ h ids),s⟩ a w/\Tr F w F1 w /\ ∀ (vs:List V) (l:List Value),aq cx.yv L F w vs l->aq cx.yv L F1 w (ga (fm (aP ids h) n) vs) l:=by
 have gY:cM (aP ids h) h:=dS ids h;have e7:bo cx L F (aP ids h) s w:=(hg.sub (e:=e) (h:=aP ids h) (fun _ _ h=>h) gY).heap;have tr:=fT e7;have q9:∀ b,cx.C s b->dP L F (aP ids h) w b=F b:=fun b hb=>ll e7 hb;have tQ:∀ id o,get h id=some o->id∉ids->aN L id o->dP L F (aP ids h) w (L.ρ id)=F (L.ρ id):=by
  intro id o hi hn hb;refine eQ ?_;rintro ⟨j,p,hj,gJ,jN⟩;have:=hg.heap.inj j id p o (gY j p hj) hi gJ hb jN;subst this;exact hn (iP ids h j p hj)
 have As:=dX e7;have mM:=nB e7 n;generalize dP L F (aP ids h) w=F1 at tr q9 tQ As mM;generalize fm (aP ids h) n=g at mM;have kQ:∀ i o',get (cn (jo g) (kJ h ids)) i=some o'->i∉ids /\ ∃ o0,get h i=some o0/\o'=jo g o0:=by
  intro i o' hi;rw[bl,gR]at hi;split at hi
  ·cases hi
  ·rename_i hn
   cases h0:get h i with
   | none=>simp[h0]at hi
   | some o0=>simp[h0]at hi;exact⟨hn,o0,rfl,hi.symm⟩
 refine⟨F1,⟨⟨cx.eV hg.heap.hg tr As fun b hb=>⟨rfl,q9 b hb⟩,hg.heap.iW,As,?_,?_,?_⟩,?_,hg.sI,hg.oe,hg.uy,hg.lk,hg.lG,hg.sD⟩,tr,fun vs l hv=>aq.eB tr mM vs l hv⟩
 ·intro i o' hi
  obtain⟨_,o0,h0,rfl⟩:=kQ i o' hi;exact bG.eB tr mM i o0 (hg.heap.obj i o0 h0)
 ·intro i o' hi hb
  obtain⟨hn,o0,h0,rfl⟩:=kQ i o' hi;have hb:=(gw i o0).1 hb;rw[tQ i o0 h0 hn hb];exact hg.heap.own i o0 h0 hb
 ·intro i j o' p hi hj kj gJ he
  obtain⟨_,o0,h0,rfl⟩:=kQ i o' hi;obtain⟨_,p0,xV,rfl⟩:=kQ j p hj;exact hg.heap.inj i j o0 p0 h0 xV ((gw i o0).1 kj) ((gw j p0).1 gJ) he
 ·intro t v ht
  simp only[bl]at ht
  cases h0:get e t with
  | none=>simp[h0]at ht
  | some v0=>
   simp[h0]at ht;subst ht;obtain⟨x,hx,hr⟩:=hg.env t v0 h0;exact⟨x,hx,a6.eB tr mM v0 x hr⟩
section
variable {P : Program} {T : dM} {σ : Type} {Y : Hd σ}
theorem Cd(n:Nat)(ids:List Nat){e:Env}{h:av}{s:σ}{d:Option Nat}{f:FuncId}{args:List V}{K:St σ->Prop}
  (hc:eE P Y ⟨cn (eB (fm (aP ids h) n)) e,cn (jo (fm (aP ids h) n)) (kJ h ids),s⟩ d f (ga (fm (aP ids h) n) args) K):eE P Y ⟨e,h,s⟩ d f args K:=by
 obtain⟨h1,h2⟩:=hc;refine⟨h1,fun cx hY r m L F a w aX hg hd hr=>?_⟩;obtain⟨F1,db,tr,hv⟩:=hg.MZ n ids;refine(h2 cx hY r m L F1 a w aX db hd (hv _ _ hr)).mono ?_;rintro en w' (⟨x,rfl,st',L',F',hk,dY,lL⟩|⟨pv,pe,ph,ps,L',F',he,hy,Gz,Hp⟩)
 ·exact .inl ⟨x,rfl,st',L',F',hk,dY,Tr.trans tr lL⟩
 ·exact .inr ⟨pv,pe,ph,ps,L',F',he,hy,Gz,Tr.trans tr Hp⟩
end
theorem Hj{g:Nat->Option DO}{id sz n:Nat}{d:D}(hv:eP g (.sl id sz 0 n)=some d):eB g (.sl id sz 0 n) = .d d:=by
 simp[eB,hv]
theorem n7{h:av}{k id sz n:Nat}{es vg:List (List D)}(hg:get h id=some (.arr sz (.dd es)))(he:es=vg)(hn:n=vg.length):eP (fm h (k+1)) (.sl id sz 0 n)=some (.vs vg):=by
 subst he;exact bI hg hn
end Go.PX
namespace Go.PX
theorem wO{g:Nat->Option DO}:∀ {a:List D} {r:List V} {r':List D},cS g r=some r'->cS g (inj a++r)=some (a++r')
 | [],r,r',h=>h
 | d::a,r,r',h=>by
  show cS g (.d d::(inj a++r))=_;rw[cS,wO h];rfl
end Go.PX
namespace Go.PX
open Go.RowKit Go.ChangeShapes
def qQ(W:World)(b:Nat):Nat:=match W.heap[b]? with
 | some (.cells c _ _)=>c.size+1
 | some _=>1
 | none=>0
def Mt(W:World):Cx Unit where
 C:=fun _ b=>b<W.heap.size
 HG:=fun _ w F=>W.heap.size<=w.heap.size /\ ∀ b,b<W.heap.size->w.heap[b]?=W.heap[b]?
 yv:=none
 wC:=none
 pρ:=id
 pκ:=id
 eV:=by
  rintro s w F w' F' ⟨h1,h2⟩ tr hf hk;exact⟨Nat.le_trans h1 tr.size,fun b hb=>(hk b hb).1.trans (h2 b hb)⟩
structure x8(W W':World):Prop where
 os:W'.os=W.os
 output:W'.output=W.output
 size:W.heap.size<=W'.heap.size
 heap:∀ b,b<W.heap.size->W'.heap[b]?=W.heap[b]?
theorem x8.frame{W W':World}(h:x8 W W')(may:MemPlace->Prop):W.keptBut W' may:=by
 refine⟨h.os,h.output,fun i hi=>?_⟩;rw[h.heap i hi]
 cases W.heap[i]? with
 | none=>rfl
 | some o=>cases o with
  | cells c t fr=>exact⟨rfl,rfl,rfl,fun _ _=>rfl⟩
  | map es clock=>exact .inr ⟨rfl,rfl⟩
  | _=>rfl
theorem x8.sameAt{W W':World}(h:x8 W W'){p:MemPlace}(hp:p.block<W.heap.size):W.sameAt W' p:=by
 cases p with
 | cell b off=>
  have:=h.heap b hp;simp only[World.sameAt,World.cell?,this]
 | map b=>exact h.heap b hp
theorem Laid.still{P:Program}{W w:World}(hl:Laid P W)(hs:W.heap.size<=w.heap.size)(hk:∀ b,b<W.heap.size->w.heap[b]?=W.heap[b]?):Laid P w:=by
 have lt:∀ {g:Nat} {o:Go.Obj},W.heap[g]?=some o->w.heap[g]?=some o:=fun {g o} h=>by
  rw[hk g (Array.getElem?_eq_some_iff.1 h).1];exact h
 have cell:∀ {g:Nat} {v:Value},W.cell? ⟨g,0,none⟩=some v->w.cell? ⟨g,0,none⟩=some v:=fun {g v} h=>by
  unfold World.cell? at h ⊢;simp only at h ⊢;split at h
  ·rename_i c t f hb
   rw[lt hb];exact h
  ·cases h
 refine⟨fun g hg=>?_,fun g hg=>?_,fun g hg=>?_,fun g hg=>?_⟩
 ·have h:=hl.TM g hg
  unfold Lib.TabIs World.var? at h ⊢;rw[hg]at h ⊢;simp only[Option.bind_some]at h ⊢;split at h
  ·rename_i c t f hb
   rw[lt hb];exact h
  ·cases h
 ·obtain⟨m,h⟩:=hl.len g hg;exact⟨m,cell h⟩
 ·obtain⟨m,v,h⟩:=hl.TK g hg;exact⟨m,v,cell h⟩
 ·obtain⟨m,v,h⟩:=hl.TJ g hg;exact⟨m,v,cell h⟩
theorem top{P:Program}{f:FuncId}{ds:List D}{d:D}(h:cy P f ds d)(W:World)(hl:Laid P W)(args:Array Value)(hr:aY (qQ W) W ds args.toList) :
  Calls P f args W fun e W'=>∃ x,e = .returned x/\(∃ F',bC F' W' d x)/\x8 W W':=by
 have h1:=(h (σ:=Unit) { y:=fun _ _ _ _=>False } ()).run (Mt W) ⟨fun l hl=>by(cases hl),fun s w F hh=>hl.still hh.1 hh.2⟩ ⟨id,id⟩ (qQ W) args W
  ⟨⟨Nat.le_refl _,fun _ _=>rfl⟩,fun b hb=>hb,fun b hb=>by simp[qQ,Array.getElem?_eq_none hb],fun id o ho=>by simp[get]at ho,fun id o ho=>by simp[get]at ho,fun i j o p ho=>by simp[get]at ho⟩ (aq.inj.2 hr)
 refine callsIn_wide.1 (h1.mono ?_);rintro e W' ⟨x,rfl,v,h',s',L',F',⟨⟨rfl,rfl⟩,_⟩,hh,hx,tr,_⟩;exact⟨x,rfl,⟨F',hx⟩,tr.os,tr.output,hh.hg.1,hh.hg.2⟩
theorem oL{H:Type}{enc:TypeId×Value->H}{P:Program}{W W':World}{base:Nat}{sp:Nat->Bool}{held:Bool}:∀ {ts:List TypeId} {vs:List Value} {ds:List (DataW H)} {ps:List MemPlace},
  DataW.TrodAll enc P W base sp held ts vs ds ps->(∀ p∈ps,W.sameAt W' p)->DataW.TrodAll enc P W' base sp held ts vs ds ps
 | [],[],[],_,h,_=>h
 | _::_,_::_,_::_,_,⟨p,q,⟨n,h1⟩,h2,e⟩,hs=>⟨p,q,⟨n,DataW.trod_carry n _ _ _ h1 fun x hx=>hs x (by rw[e];exact List.mem_append_left _ hx)⟩,oL h2 (fun x hx=>hs x (by rw[e];exact List.mem_append_right _ hx)),e⟩
structure Rd(P:Program)(W:World)(t:TypeId)(S:List D->Prop):Prop where
 read:∀ {H:Type} {enc:TypeId×Value->H} {sp:Nat->Bool} {held:Bool} {fuel:Nat} {cs:List Value} {x:DataW H×List MemPlace},DataW.trod enc P W 0 sp held fuel t cs=some x -> ∃ ds,S ds/\aY (qQ W) W ds cs
section
variable {P : Program} {W : World} {t : TypeId}
theorem Rd.int{k:IntKind}(ht:P.underlying t=some (.int k)):Rd P W t fun ds=>∃ n,ds = [.int k n]:=by
 refine⟨?_⟩;intro H enc sp held fuel cs x h;obtain⟨n,rfl,_,_⟩:=DataW.trod_int ht h;exact⟨[.int k n],⟨n,rfl⟩,_,[],rfl,rfl,rfl⟩
theorem Rd.str(ht:P.underlying t=some .string):Rd P W t fun ds=>∃ s,ds = [.str s]:=by
 refine⟨?_⟩;intro H enc sp held fuel cs x h;obtain⟨n,rfl,_,_⟩:=DataW.trod_string ht h;exact⟨[.str n],⟨n,rfl⟩,_,[],rfl,rfl,rfl⟩
theorem Rd.mono{S S':List D->Prop}(h:Rd P W t S)(hS:∀ ds,S ds->S' ds):Rd P W t S':=by
 refine⟨?_⟩;intro H enc sp held fuel cs x hx;obtain⟨ds,h1,h2⟩:=h.read hx;exact⟨ds,hS ds h1,h2⟩
theorem Cm{b off:Nat}{v:Value}(h:W.cell? ⟨b,off,none⟩=some v):off<qQ W b:=by
 unfold World.cell? at h;unfold qQ;simp only at h;split at h
 ·rename_i c t' f hb
  rw[hb];simp only[Option.isSome_none,Bool.false_eq_true,if_false]at h;obtain⟨eC,_⟩:=Array.getElem?_eq_some_iff.1 h;simp only;omega
 ·cases h
theorem zi:∀ {ds:List D} {cs:List Value} {b off:Nat},aY (qQ W) W ds cs->(∀ i v,cs[i]?=some v->W.cell? ⟨b,off+i,none⟩=some v)->cf (qQ W) W b off ds
 | [],_,_,_,_,_=>trivial
 | d::r,_,b,off,h,hc=>by
  obtain⟨x,l',rfl,hd,hl⟩:=h;have h0:=hc 0 x rfl;refine⟨Cm h0,⟨x,h0,hd⟩,zi hl fun i v hv=>?_⟩;have:=hc (i+1) v hv
  rwa [show off+(i+1)=off+1+i by omega]at this
theorem nP{a:Addr}{k:Nat}{cs:List Value}(h:W.cells? 0 a k=some cs):cs.length=k /\ ∀ i v,cs[i]?=some v->W.cell? (a.add i)=some v:=by
 unfold World.cells? at h;rw[if_pos (Nat.zero_le _)]at h;have hl:cs.length=k:=by simpa using mapM_some_length h
 refine⟨hl,fun i v hv=>?_⟩;have hi:i<k:=by
  have:=(List.getElem?_eq_some_iff.1 hv).1;omega
 rw[mapM_some_get h i i (by simp[hi]),hv]
theorem uQ{e:TypeId}{S:List D->Prop}{b:Nat}{k:Nat}:∀ {n:Nat} {off:Nat},(∀ i,i<n -> ∃ cs ds,cs.length=k/\(∀ j v,cs[j]?=some v->W.cell? ⟨b,off+i*k+j,none⟩=some v)/\S ds/\aY (qQ W) W ds cs) ->
  ∃ es:List (List D),es.length=n/\(∀ e∈es,S e)/\cF (qQ W) W b off k es
 | 0,off,_=>⟨[],rfl,fun e h=>by(cases h),trivial⟩
 | n+1,off,h=>by
  obtain⟨cs,ds,h1,h2,h3,h4⟩:=h 0 (by omega);obtain⟨es,g1,g2,g3⟩:=uQ (e:=e) (S:=S) (n:=n) (off:=off+k) fun i hi=>by
   obtain⟨cs,ds,h1,h2,h3,h4⟩:=h (i+1) (by omega);refine⟨cs,ds,h1,fun j v hv=>?_,h3,h4⟩;have:=h2 j v hv
   rwa [show off+(i+1)*k+j=off+k+i*k+j by rw[Nat.add_mul];omega]at this
  refine⟨ds::es,by simp[g1],fun e he=>?_,?_,?_,g3⟩
  ·rcases List.mem_cons.1 he with rfl|he
   ·exact h3
   ·exact g2 e he
  ·rw[<- h4.length,h1]
  ·exact zi h4 fun i v hv=>by simpa using h2 i v hv
theorem Rd.slice{e:TypeId}{S:List D->Prop}(ht:P.underlying t=some (.slice e)){k:Nat}(hk:P.cellsOf e=k)(yE:0<k)(he:Rd P W e S):Rd P W t fun ds=>∃ es,ds = [.vs es] /\ ∀ e∈es,S e:=by
 subst hk;refine⟨?_⟩;intro H enc sp held fuel cs x h;rcases DataW.trod_slice ht h with⟨rfl,_⟩|⟨a,len,cap,elems,rest,n,rfl,rfl,_,_,hl,_,hlen,sk,_,_⟩
 ·exact⟨[.vs []],⟨[],rfl,fun e h=>by(cases h)⟩,_,[],rfl,⟨none,0,0,rfl,rfl,Nat.le_refl _,fun h=>absurd rfl h⟩,rfl⟩
 ·by_cases h0:len=0
  ·subst h0
   exact⟨[.vs []],⟨[],rfl,fun e h=>by(cases h)⟩,_,[],rfl,⟨some a,0,cap,rfl,rfl,hl,fun h=>absurd rfl h⟩,rfl⟩
  have one:∀ i,i<len -> ∃ cs ds,W.cells? 0 (a.add (i*P.cellsOf e)) (P.cellsOf e)=some cs/\S ds/\aY (qQ W) W ds cs:=by
   intro i hi;have h1:=sk i hi;rw[List.getElem?_eq_getElem (by omega)]at h1;obtain⟨cs,h2,h3⟩:=Option.bind_eq_some_iff.1 h1;obtain⟨ds,h4,h5⟩:=he.read h3;exact⟨cs,ds,h2,h4,h5⟩
  have hs:a.spot=none:=by
   obtain⟨cs,ds,h1,_,h3⟩:=one 0 (by omega);obtain⟨g1,g2⟩:=nP h1;have eC:0<cs.length:=by omega
   have:=g2 0 cs[0] (List.getElem?_eq_getElem eC);have:=World.cell?_spot this;simpa[Addr.add]using this
  obtain⟨b,off,spot⟩:=a;simp only at hs;subst hs;obtain⟨es,g1,g2,g3⟩:=uQ (e:=e) (S:=S) (W:=W) (b:=b) (k:=P.cellsOf e) (n:=len) (off:=off) fun i hi=>by
   obtain⟨cs,ds,h1,h2,h3⟩:=one i hi;obtain⟨k1,k2⟩:=nP h1;refine⟨cs,ds,k1,fun j v hv=>?_,h2,h3⟩;have:=k2 j v hv;have e1:∀ n m:Nat,(Addr.add ⟨b,n,none⟩ m)=⟨b,n+m,none⟩:=by
    intro n m;unfold Addr.add;split
    ·rename_i h;subst h;rfl
    ·rfl
   rw[e1,e1]at this;exact this
  exact⟨[.vs es],⟨es,rfl,g2⟩,_,[],rfl,⟨some ⟨b,off,none⟩,len,cap,rfl,g1.symm,hl,fun _=>⟨b,off,_,rfl,yE,g3⟩⟩,rfl⟩
def Ih:List (List D->Prop)->List D->Prop
 | [],ds=>ds = []
 | S::r,ds=>∃ a b,ds=a++b/\S a/\Ih r b
theorem aY.app{F:Nat->Nat}{w:World}:∀ {a b:List D} {l m:List Value},aY F w a l->aY F w b m->aY F w (a++b) (l++m)
 | [],b,l,m,h1,h2=>by
  have:l = []:=h1;subst this;exact h2
 | d::a,b,l,m,h1,h2=>by
  obtain⟨x,l',rfl,hd,hl⟩:=h1;exact⟨x,l'++m,rfl,hd,aY.app hl h2⟩
inductive Ka(P:Program)(W:World):List Field->Nat->Nat->List (List D->Prop)->Prop where
 | nil (n:Nat):Ka P W [] n n []
 | cons {f:Field} {fs:List Field} {off n k:Nat} {S:List D->Prop} {Ss:List (List D->Prop)} (ho:f.offset=off) (hk:P.cellsOf f.type=k) (hf:Rd P W f.type S) (hr:Ka P W fs (off+k) n Ss):Ka P W (f::fs) off n (S::Ss)
theorem Fl{fs:List Field}{off n:Nat}{Ss:List (List D->Prop)}(h:Ka P W fs off n Ss):∀ {H:Type} {enc:TypeId×Value->H} {sp:Nat->Bool} {held:Bool} {fuel:Nat} {cs:List Value} {xs:List (DataW H×List MemPlace)},cs.length=n ->
  fs.mapM (fun f=>DataW.trod enc P W 0 sp held fuel f.type ((cs.drop f.offset).take (P.cellsOf f.type)))=some xs -> ∃ ds,Ih Ss ds/\aY (qQ W) W ds (cs.drop off):=by
 induction h with
 | nil m=>
  intro H enc sp held fuel cs xs hn _;rw[List.drop_eq_nil_of_le (by omega)];exact⟨[],rfl,rfl⟩
 | @cons f fs off m k S Ss ho hk hf hr ih=>
  intro H enc sp held fuel cs xs hn hm;rw[List.mapM_cons]at hm;simp only[Option.bind_eq_bind,Option.bind_eq_some_iff,Option.pure_def,Option.some.injEq]at hm;obtain⟨y,hy,ys,Tq,_⟩:=hm;obtain⟨Q5,h1,h2⟩:=hf.read hy;obtain⟨Q6,h3,h4⟩:=ih hn Tq;rw[ho,hk]at h2;refine⟨Q5++Q6,⟨Q5,Q6,rfl,h1,h3⟩,?_⟩;have h5:=aY.app h2 h4
  rwa [show(cs.drop off).take k++cs.drop (off+k)=cs.drop off by rw[<- List.drop_drop];exact List.take_append_drop _ _]at h5
theorem Rd.struct{fs:Array Field}{n:Nat}{Ss:List (List D->Prop)}(ht:P.underlying t=some (.struct fs))(hn:P.cellsOf t=n)(hf:Ka P W fs.toList 0 n Ss):Rd P W t (Ih Ss):=by
 refine⟨?_⟩;intro H enc sp held fuel cs x h
 cases fuel with
 | zero=>simp[DataW.trod]at h
 | succ fuel=>
  unfold DataW.trod at h;rw[ht]at h;simp only at h;split at h
  ·rename_i hl
   obtain⟨xs,L9,_⟩:=Option.map_eq_some_iff.1 h;obtain⟨ds,h1,h2⟩:=Fl hf (hl.trans hn) L9;exact⟨ds,h1,by simpa using h2⟩
  ·cases h
end
theorem qp{α:Type}{f:α->List D}{S:List D->Prop}(h:∀ ds,S ds -> ∃ a,ds=f a):∀ {es:List (List D)},(∀ e∈es,S e) -> ∃ l:List α,es=l.map f
 | [],_=>⟨[],rfl⟩
 | e::r,he=>by
  obtain⟨a,ha⟩:=h e (he e (by simp));obtain⟨l,hl⟩:=qp h (es:=r) fun x hx=>he x (by simp[hx]);exact⟨a::l,by rw[ha,hl];rfl⟩
end Go.PX
