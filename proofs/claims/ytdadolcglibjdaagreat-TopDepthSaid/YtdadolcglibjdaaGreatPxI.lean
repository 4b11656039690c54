import Derived.Test.YtdadolcglibjdaaGreatPxH
set_option linter.all false
namespace Go.PX
open Go.RowKit
mutual
def g7:V->Bool
 | .agg cs=>jL cs
 | .tup cs=>jL cs
 | .clo _ cs=>jL cs
 | .ifc _ cs=>jL cs
 | .yld=>false
 | _=>true
def jL:List V->Bool
 | []=>true
 | v::r=>g7 v&&jL r
end
mutual
theorem aT.g7{yv Sg:Option Nat}{L:Loc}{F:Nat->Nat}{w:World}:∀ (v:V) (x:Value),PX.g7 v=true->aT yv L F w v x->aT Sg L F w v x
 | .d _,_,_,h=>h
 | .agg cs,x,hy,h=>by
  obtain⟨l,rfl,hl⟩:=h;exact⟨l,rfl,aj.g7 cs _ hy hl⟩
 | .tup cs,x,hy,h=>by
  obtain⟨l,rfl,hl⟩:=h;exact⟨l,rfl,aj.g7 cs _ hy hl⟩
 | .clo f cs,x,hy,h=>by
  obtain⟨l,rfl,hl⟩:=h;exact⟨l,rfl,aj.g7 cs _ hy hl⟩
 | .ifc f cs,x,hy,h=>by
  obtain⟨l,rfl,hl⟩:=h;exact⟨l,rfl,aj.g7 cs _ hy hl⟩
 | .ptr _ _,_,_,h=>h
 | .ep _ _ _ _,_,_,h=>h
 | .sl _ _ _ _,_,_,h=>h
 | .mp _,_,_,h=>h
 | .it _,_,_,h=>h
 | .yld,_,hy,_=>by cases hy
 | .unk,_,_,h=>h
theorem aj.g7{yv Sg:Option Nat}{L:Loc}{F:Nat->Nat}{w:World}:∀ (vs:List V) (l:List Value),jL vs=true->aj yv L F w vs l->aj Sg L F w vs l
 | [],_,_,h=>h
 | v::r,l,hy,h=>by
  simp only[jL,Bool.and_eq_true]at hy;obtain⟨x,l',rfl,hx,hl⟩:=h;exact⟨x,l',rfl,aT.g7 v x hy.1 hx,aj.g7 r l' hy.2 hl⟩
end
def Dm:Obj->Bool
 | .box c=>jL c.bo
 | .arr _ es=>jL es.bo.flatten
 | .mit v _ _ _=>g7 v
 | .tb _ l=>jL l
 | .fz l=>jL l
 | _=>true
def zT:aq->Bool
 | []=>true
 | (_,o)::r=>Dm o&&zT r
theorem oK:∀ {h:aq} {i:Nat} {o:Obj},zT h=true->get h i=some o->Dm o=true
 | [],i,o,_,h=>by cases h
 | (k,p)::r,i,o,hy,h=>by
  simp only[zT,Bool.and_eq_true]at hy;simp only[get]at h;split at h
  ·cases h;exact hy.1
  ·exact oK hy.2 h
theorem bF.g7{yv Sg:Option Nat}{L:Loc}{F:Nat->Nat}{w:World}{id:Nat}(o:Obj)(hy:Dm o=true)(h:bF yv L F w id o):bF Sg L F w id o:=by
 cases o with
 | box cs=>
  obtain⟨c,T,hc,hr⟩:=h;exact⟨c,T,hc,aj.g7 _ _ hy hr⟩
 | arr sz es=>
  obtain⟨h1,h2,h3⟩:=h;refine⟨h1,h2,h3.imp (fun h=>h) ?_⟩;rintro ⟨c,T,hc,k1,k2,hr⟩;refine⟨c,T,hc,k1,k2,aj.g7 _ _ hy hr⟩
 | map b0=>exact h
 | iter s n=>exact h
 | buf t s=>exact h
 | tb t l=>
  obtain⟨c,hc,hr⟩:=h;exact⟨c,hc,aj.g7 _ _ hy hr⟩
 | fz l=>
  obtain⟨c,hc,hr⟩:=h;exact⟨c,hc,aj.g7 _ _ hy hr⟩
 | mit v n l u=>
  obtain⟨r,seen,h1,h2⟩:=h;exact⟨r,seen,aT.g7 v _ hy h1,h2⟩
inductive RS(α σ:Type) where
 | go (x:α)
 | done (e:dX) (h:aq) (s:σ)
section
variable {α σ : Type}
def RS.heap(I:α->aq×σ):RS α σ->aq
 | .go x=>(I x).1
 | .done _ h _=>h
def RS.st(I:α->aq×σ):RS α σ->σ
 | .go x=>(I x).2
 | .done _ _ s=>s
def Na:dX->Code
 | .ret=>.ret
 | .exit i=>.exit i
 | .normal=>.skip
def jq(base:Go.Loop):RS α σ->Go.Loop
 | .go _=>{ base with state:=.ready,pending:=none }
 | .done e _ _=>{ base with state:=.done,pending:=some (Na e) }
def uB(L:Loc)(h:aq)(b:Nat):Prop:=∃ id o,get h id=some o/\aJ L id o/\L.ρ id=b
def aV(c n i:Nat):Bool:=Nat.ble c i&&Nat.blt i (c+n)
def tI(p:Nat->Bool):List Nat->Bool
 | []=>true
 | i::r=>p i&&tI p r
theorem dW{p:Nat->Bool}:∀ {l:List Nat},tI p l=true -> ∀ i∈l,p i=true
 | [],_,i,hi=>by cases hi
 | k::r,h,i,hi=>by
  simp only[tI,Bool.and_eq_true]at h;rcases List.mem_cons.1 hi with rfl|hi
  ·exact h.1
  ·exact dW h.2 i hi
def Fb(c:Nat)(tb:List Nat)(h:aq):Bool:=tI (fun i=>!aV c 64 i && !tQ tb i) (bk h)
def RX(args:List V)(h:aq):Bool:=tI (aV 1000000 64) (bU args)&&tI (aV 1000000 64) (bk h)&&(jL args&&zT h)
structure Lm(cx:Cx σ)(I:α->aq×σ)(l:Nat)(m:List Nat)(r:Option Nat)(base:Go.Loop)(e1:Env)(tmps:Array Value)(c:Nat)(tb:List Nat)(pρ pκ:Nat->Nat)(F0:Nat->Nat)(w0:World)(g:RS α σ×Loc)(w:World)(F:Nat->Nat):Prop where
 heap:bp cx g.2 F (g.1.heap I) (g.1.st I) w
 xZ:w.heap[l]?=some (.loop (jq base g.1))/\¬ cx.C (g.1.st I) l
 pR:∀ b∈m,w.heap[b]?=some (.deferred (some []))/\¬ cx.C (g.1.st I) b
 out:∀ l0,r=some l0 -> ∃ lp,(w.heap[l0]?=some (.loop lp)/\cx.xZ=some lp)/\¬ cx.C (g.1.st I) l0
 env:∀ t v,get e1 t=some v -> ∃ x,tmps[t]?=some x/\aT cx.yv g.2 F w v x
 mT:∀ i,pinned i->g.2.ρ i=pρ i/\g.2.κ i=pκ i
 tr:Tr F0 w0 F w
 ok:Fb c tb (g.1.heap I)=true
def e7(cx:Cx σ)(I:α->aq×σ)(l:Nat)(m:List Nat)(r:Option Nat)(base:Go.Loop)(e1:Env)(tmps:Array Value)(c:Nat)(tb:List Nat)(pρ pκ:Nat->Nat)(F0:Nat->Nat)(w0:World):Cx (RS α σ×Loc) where
 C:=fun g b=>cx.C (g.1.st I) b\/uB g.2 (g.1.heap I) b\/b=l\/b∈m\/r=some b
 HG:=fun g w F=>Lm cx I l m r base e1 tmps c tb pρ pκ F0 w0 g w F
 yv:=some l
 xZ:=none
 pρ:=cx.pρ
 pκ:=cx.pκ
 eJ:=by
  intro s w F w' F' h tr hf hk;refine⟨h.heap.JE tr hf (fun b hb=>hk b (.inl hb)) (fun id o hi hb=>hk _ (.inr (.inl ⟨id,o,hi,hb,rfl⟩))),⟨by rw[(hk l (.inr (.inr (.inl rfl)))).1];exact h.xZ.1,h.xZ.2⟩,
   fun b hb=>⟨by rw[(hk b (.inr (.inr (.inr (.inl hb))))).1];exact(h.pR b hb).1,(h.pR b hb).2⟩,fun l0 hl=>?_,fun t v ht=>?_,h.mT,Tr.trans h.tr tr,h.ok⟩
  ·obtain⟨lp,⟨k1,k2⟩,k3⟩:=h.out l0 hl
   exact⟨lp,⟨by rw[(hk l0 (.inr (.inr (.inr (.inr hl))))).1];exact k1,k2⟩,k3⟩
  ·obtain⟨x,hx,hr⟩:=h.env t v ht
   exact⟨x,hx,aT.mono tr v x (fun _ _=>⟨rfl,rfl⟩) hr⟩
def BH:List Tmp->List V->Env->Env
 | t::ps,v::vs,e=>BH ps vs (put e t v)
 | _,_,e=>e
def cm(c:Nat)(i:Nat):Nat:=
 match Nat.ble 1000000 i,Nat.blt i 1000064 with
 | true,true=>c+(i-1000000)
 | _,_=>i
noncomputable def oy(P:Program)(T:dV)(ft:FT)(Y:Hd σ)(I:α->aq×σ)(ps:Array Tmp)(a b:Code)(e1:Env)(c:Nat)(tb:List Nat):Hd (RS α σ) where
 y:=fun args h g Q=>match g with
  | .done _ _ _=>False
  | .go x=>(args.length=ps.size/\RX args h=true)/\Di P T ft Y.np a ⟨BH ps.toList (kU (cm c) args) e1,(I x).1++df (cm c) h,(I x).2⟩ fun e st=>match e with
   | .normal=>Di P T ft Y.np b st fun e dm=>match e with
    | .normal=>∃ x',Wk dm ⟨[],(I x').1++df (cm c) h,(I x').2⟩/\Fb c tb (I x').1=true/\Q (.d (.bool true)) h (.go x')
    | e=>∃ hd s',Wk dm ⟨[],hd++df (cm c) h,s'⟩/\Fb c tb hd=true/\Q (.d (.bool false)) h (.done e hd s')
   | _=>False
def A7(Y:Hd (RS α σ)):Hd (RS α σ×Loc) where
 y:=fun args h g Q=>Y.y args h g.1 fun v h' g'=>∀ L',Q v h' (g',L')
theorem bp.append{cx:Cx σ}{L:Loc}{F:Nat->Nat}{h k:aq}{s:σ}{w:World}(hh:bp cx L F h s w)(hk:bp cx L F k s w)
  (hx:∀ i j o p,get h i=some o->get k j=some p->aJ L i o->aJ L j p->L.ρ i≠L.ρ j):bp cx L F (h++k) s w:=by
 have hg:∀ {h:aq} {i:Nat} {o:Obj},get (h++k) i=some o->get h i=some o\/get k i=some o:=by
  intro h
  induction h with
  | nil=>exact fun h=>.inr h
  | cons a r ih=>
   intro i o h;obtain⟨j,p⟩:=a;simp only[List.cons_append,get]at h ⊢;split at h
   ·exact .inl h
   ·exact ih h
 refine⟨hh.hg,hh.j6,hh.fresh,fun i o hi=>(hg hi).elim (hh.obj i o) (hk.obj i o),fun i o hi=>(hg hi).elim (hh.own i o) (hk.own i o),fun i j o p hi hj hb kR e=>?_⟩;rcases hg hi with hi|hi<;>rcases hg hj with hj|hj
 ·exact hh.inj i j o p hi hj hb kR e
 ·exact absurd e (hx i j o p hi hj hb kR)
 ·exact absurd e.symm (hx j i p o hj hi kR hb)
 ·exact hk.inj i j o p hi hj hb kR e
theorem ng{h k:aq}{i:Nat}{o:Obj}:get h i=some o->get (h++k) i=some o:=by
 induction h with
 | nil=>intro h;cases h
 | cons a r ih=>
  intro h;obtain⟨j,p⟩:=a;simp only[List.cons_append,get]at h ⊢;split at h
  ·exact h
  ·exact ih h
theorem sf{h k:aq}{i:Nat}{o:Obj}:get h i=none->get k i=some o->get (h++k) i=some o:=by
 induction h with
 | nil=>intro _ h;exact h
 | cons a r ih=>
  intro h1 h2;obtain⟨j,p⟩:=a;simp only[List.cons_append,get]at h1 ⊢;split at h1
  ·cases h1
  ·exact ih h1 h2
theorem ta{R:Nat->Nat}:∀ {h:aq} {j:Nat} {o:Obj},(∀ i∈bk h,R i=R j->i=j)->get h j=some o->get (df R h) (R j)=some (iD R o)
 | [],j,o,_,h=>by cases h
 | (k,p)::r,j,o,hi,h=>by
  simp only[get]at h;simp only[df,get];split at h
  ·rename_i he
   have:=Nat.eq_of_beq_eq_true he;subst this;cases h;simp
  ·rename_i he
   have:Nat.beq (R k) (R j)=false:=by
    rw[Bool.eq_false_iff];intro e;have:=hi k (by simp[bk]) (Nat.eq_of_beq_eq_true e);subst this;simp at he
   simp only[this];exact ta (fun i h1=>hi i (by simp[bk,h1])) h
theorem dp.np{P:Program}{Y:Hd σ}{cx:Cx σ}(hY:dp P Y cx):dp P Y.np cx:=⟨hY.yld,hY.laid⟩
theorem dp.XU{P:Program}{Y:Hd σ}{cx:Cx σ}(hY:dp P Y cx)(xZ:Option Go.Loop)(pρ pκ:Nat->Nat):dp P Y { cx with xZ:=xZ,pρ:=pρ,pκ:=pκ }:=by
 refine⟨?_,hY.laid⟩;intro l hl args h s Q hy L' F' a9 w tM hr;obtain⟨fn,tmps,zU,body,h1,h2⟩:=hY.yld l hl args h s Q hy L' F' a9 w ⟨tM.hg,tM.j6,tM.fresh,tM.obj,tM.own,tM.inj⟩ hr;refine⟨fn,tmps,zU,body,h1,h2.mono ?_⟩;rintro e w' ⟨x,he,v,h',s',Lk,Iy,hq,lD,rest⟩;exact⟨x,he,v,h',s',Lk,Iy,hq,⟨lD.hg,lD.j6,lD.fresh,lD.obj,lD.own,lD.inj⟩,rest⟩
theorem Good.record{cx:Cx σ}{l:Nat}{m:List Nat}{L:Loc}{F:Nat->Nat}{st:St σ}{a:Act}{w:World}(hg:Good cx (some l) m L F st a w)(lp:Go.Loop) :
  Good { cx with xZ:=some lp } (some l) m L F st a (w.putObj l (.loop lp))/\Tr F w F (w.putObj l (.loop lp)):=by
 obtain⟨SM,⟨h1,_⟩,h2⟩:=hg.lk l rfl;have tr:Tr F w F (w.putObj l (.loop lp)):=Tr.Tl h1 (fun _ _ _ h=>by cases h) (fun _ _ h=>by cases h) (fun _ _ _ h=>by cases h);have hk:∀ x,x≠l->(w.putObj l (.loop lp)).heap[x]?=w.heap[x]?:=fun x hx=>World.putObj_heap_other hx;have hh:=hg.heap.JE tr (fun b hb=>hg.heap.fresh b (by simpa using hb)) (fun b hb=>⟨hk b (by rintro rfl;exact h2 hb),rfl⟩) (fun id o hi hb=>⟨hk _ (by
  intro e;exact(bF.ry (hg.heap.obj id o hi) hb (by rw[e];exact h1)).1 SM rfl),rfl⟩)
 refine⟨⟨⟨hh.hg,hh.j6,hh.fresh,hh.obj,hh.own,hh.inj⟩,fun t v ht=>?_,hg.wA,fun b hb=>?_,hg.wS,fun l' hl=>?_,hg.mT,hg.wm⟩,tr⟩
 ·obtain⟨x,hx,hr⟩:=hg.env t v ht
  exact⟨x,hx,aT.mono tr v x (fun _ _=>⟨rfl,rfl⟩) hr⟩
 ·obtain⟨k1,k2⟩:=hg.pR b hb
  exact⟨by rw[hk b (by rintro rfl;rw[h1]at k1;cases k1)];exact k1,k2⟩
 ·cases hl
  exact⟨lp,⟨World.putObj_heap_same (bH h1),rfl⟩,h2⟩
end
end Go.PX
namespace Go.PX
open Go.RowKit
section
variable {P : Program} {T : dV} {ft : FT} {α σ : Type} {Y : Hd σ} {cx : Cx σ} {I : α -> aq × σ} {l : Nat} {m : List Nat} {r : Option Nat} {base : Go.Loop} {e1 : Env} {tmps : Array Value} {c : Nat} {tb : List Nat} {pρ pκ : Nat -> Nat} {F0 : Nat -> Nat} {w0 : World}
theorem lY{c i:Nat}(h:aV 1000000 64 i=true):cm c i=c+(i-1000000)/\1000000<=i/\i<1000064:=by
 simp only[aV,Bool.and_eq_true]at h;have h1:=Nat.le_of_ble_eq_true h.1;have h2:i<1000064:=Nat.le_of_ble_eq_true h.2;exact⟨by unfold cm;rw[h.1,show Nat.blt i 1000064=true from h.2],h1,h2⟩
theorem eM{c n i:Nat}:aV c n i=true↔c<=i/\i<c+n:=by
 simp only[aV,Bool.and_eq_true];exact⟨fun h=>⟨Nat.le_of_ble_eq_true h.1,Nat.le_of_ble_eq_true h.2⟩,fun h=>⟨Nat.ble_eq_true_of_le h.1,Nat.ble_eq_true_of_le h.2⟩⟩
def bJ(c:Nat)(L L2:Loc):Loc:=⟨fun j=>if aV c 64 j then L2.ρ (1000000+(j-c)) else L.ρ j,fun j=>if aV c 64 j then L2.κ (1000000+(j-c)) else L.κ j⟩
theorem dF{L L2:Loc}{j:Nat}(h:aV c 64 j=false):(bJ c L L2).ρ j=L.ρ j/\(bJ c L L2).κ j=L.κ j:=by
 simp[bJ,h]
theorem jr{L L2:Loc}{i:Nat}(h:aV 1000000 64 i=true):(bJ c L L2).ρ (cm c i)=L2.ρ i/\(bJ c L L2).κ (cm c i)=L2.κ i:=by
 obtain⟨h1,h2,h3⟩:=lY (c:=c) h;have:aV c 64 (cm c i)=true:=by rw[eM];omega
 have h4:1000000+(cm c i-c)=i:=by omega
 simp[bJ,this,h4]
theorem rA{h:aq}(hk:Fb c tb h=true):∀ i∈bk h,aV c 64 i=false/\i∉tb:=by
 intro i hi;have:=dW hk i hi;simp only[Bool.and_eq_true,Bool.not_eq_true']at this;exact⟨this.1,fun hm=>by rw[eZ.2 hm]at this;cases this.2⟩
theorem yl:∀ {ps:List Tmp} {vs:List V} {e:Env} {a9:List Value} {t0:Array Value} {yv:Option Nat} {L:Loc} {F:Nat->Nat} {w:World},ps.length=vs.length->(∀ p∈ps,p<t0.size)->aj yv L F w vs a9->(∀ t v,get e t=some v -> ∃ x,t0[t]?=some x/\aT yv L F w v x) ->
  ∀ t v,get (BH ps vs e) t=some v -> ∃ x,((ps.zip a9).foldl (fun tm (p:Tmp×Value)=>tm.setIfInBounds p.1 p.2) t0)[t]?=some x/\aT yv L F w v x
 | [],vs,e,a9,t0,yv,L,F,w,_,_,_,he,t,v,ht=>by
  have:BH [] vs e=e:=by cases vs<;>rfl
  rw[this]at ht;simpa using he t v ht
 | p::ps,[],e,a9,t0,yv,L,F,w,hl,_,_,_,_,_,_=>by cases hl
 | p::ps,v0::vs,e,_,t0,yv,L,F,w,hl,hp,⟨x,l',rfl,hx,hr⟩,he,t,v,ht=>by
  simp only[List.zip_cons_cons,List.foldl_cons];refine yl (ps:=ps) (vs:=vs) (e:=put e p v0) (t0:=t0.setIfInBounds p x) (by simpa using hl) (fun q hq=>by simpa using hp q (List.mem_cons_of_mem _ hq)) hr (fun t' v' SH=>?_) t v ht;clear ht;rw[db]at SH;split at SH
  ·rename_i e1;cases SH;rw[e1]
   exact⟨x,by simp[Array.getElem?_setIfInBounds,hp p (List.mem_cons_self ..)],hx⟩
  ·rename_i e1
   obtain⟨y,hy,AW⟩:=he t' v' SH;exact⟨y,by rw[Array.getElem?_setIfInBounds_ne (Ne.symm e1)];exact hy,AW⟩
theorem qi:∀ (l:List (Tmp×Value)) (t0:Array Value),(l.foldl (fun tm (p:Tmp×Value)=>tm.setIfInBounds p.1 p.2) t0).size=t0.size
 | [],t0=>rfl
 | p::l,t0=>by simp only[List.foldl_cons];rw[qi l];simp
def uq(cx:Cx σ)(s0:σ)(w:World)(F:Nat->Nat)(Own:Nat->Prop)(l:Nat)(xZ:Option Go.Loop)(pρ pκ:Nat->Nat):Cx σ:=
 { CA cx s0 w F (fun b=>Own b\/b=l) with xZ:=xZ,pρ:=pρ,pκ:=pκ }
theorem Bv{cx:Cx σ}{I:α->aq×σ}{x:α}{L1:Loc}{w:World}{F:Nat->Nat}(hg:(e7 cx I l m r base e1 tmps c tb pρ pκ F0 w0).HG (.go x,L1) w F)(u5:base.state = .ready/\base.pending=none){ps:Array Tmp}
  (Jt:∀ p∈ps.toList,p<tmps.size) (WC:tmps.size<=1000000) (hc:1000000<=c/\c+64<=2000000) (hE:∀ i∈fO e1,pinned i/\aV c 64 i=false) {args:List V} {h:aq} {L2:Loc} {a9:Array Value}
  (hh:bp (e7 cx I l m r base e1 tmps c tb pρ pκ F0 w0) L2 F h (.go x,L1) w) (hr:aj (some l) L2 F w args a9.toList) (hlen:args.length=ps.size) (eg:RX args h=true) :
  Good (uq cx (I x).2 w F (uB (bJ c L1 L2) ((I x).1++df (cm c) h)) l (some base) (bJ c L1 L2).ρ (bJ c L1 L2).κ) (some l) [] (bJ c L1 L2) F
   ⟨BH ps.toList (kU (cm c) args) e1,(I x).1++df (cm c) h,(I x).2⟩ { tmps:=(ps.zip a9).foldl (fun t (p,v)=>t.setIfInBounds p v) tmps,defers:=[] } w:=by
 obtain⟨i1,i2,i3,i4,i5,i6,i7,i8⟩:=hg;simp only[RS.heap,RS.st]at i1 i2 i3 i4 i8;simp only[RX,Bool.and_eq_true]at eg;obtain⟨⟨hA,hB⟩,SJ⟩:=eg;have hA:=dW hA;have hB:=dW hB;have hC:=rA i8;have G1:bp cx L2 F h (I x).2 w:=⟨i1.hg,fun b hb=>hh.j6 b (.inl hb),hh.fresh,fun id o hi=>bF.g7 o (oK SJ.2 hi) (hh.obj id o hi),fun id o hi hb=>⟨(hh.own id o hi hb).1,fun h=>(hh.own id o hi hb).2 (.inl h)⟩,hh.inj⟩;have K4:aj cx.yv L2 F w args a9.toList:=aj.g7 _ _ SJ.1 hr;have YJ:bp cx (bJ c L1 L2) F (I x).1 (I x).2 w:=by
  refine⟨i1.hg,i1.j6,i1.fresh,fun id o hi=>?_,fun id o hi hb=>?_,fun i j o p hi hj hb kR e=>?_⟩
  ·obtain⟨n1,n2⟩:=aU hi
   exact bF.mono (Tr.refl F w) id o (fun j hj=>dF (hC j (n2 j (ed j o hj))).1) (dF (hC id n1).1) (fun _=>rfl) (i1.obj id o hi)
  ·obtain⟨n1,n2⟩:=aU hi
   obtain⟨q1,q2⟩:=dF (L:=L1) (L2:=L2) (hC id n1).1;rw[q1];exact i1.own id o hi (ez q2 hb)
  ·obtain⟨n1,_⟩:=aU hi
   obtain⟨n2,_⟩:=aU hj;obtain⟨q1,q2⟩:=dF (L:=L1) (L2:=L2) (hC i n1).1;obtain⟨q3,q4⟩:=dF (L:=L1) (L2:=L2) (hC j n2).1;rw[q1,q3]at e;exact i1.inj i j o p hi hj (ez q2 hb) (ez q4 kR) e
 have Vs:bp cx (bJ c L1 L2) F (df (cm c) h) (I x).2 w:=G1.mg fun i hi=>jr (hB i hi);have Sm:=YJ.append Vs (by
  intro i j o p hi hj hb kR e;obtain⟨n1,_⟩:=aU hi;obtain⟨q1,q2⟩:=dF (L:=L1) (L2:=L2) (hC i n1).1;obtain⟨j',p',AN,rfl,rfl⟩:=kn hj;obtain⟨n2,_⟩:=aU AN;obtain⟨q3,q4⟩:=jr (c:=c) (L:=L1) (L2:=L2) (hB j' n2);rw[q1,q3]at e;refine(hh.own j' p' AN ((bX (R:=cm c) (L:=L2) (L':=bJ c L1 L2) j' p' q4).1 kR)).2 (.inr (.inl ⟨i,o,hi,ez q2 hb,e⟩)))
 refine⟨⟨⟨i1.hg,Nat.le_refl _,fun b hb hc=>hc,fun b hb hl hc=>⟨rfl,rfl⟩⟩,fun b hb=>hb.elim (i1.j6 b) (fun h=>h.1),i1.fresh,Sm.obj,fun id o hi hb=>⟨(Sm.own id o hi hb).1,fun hC=>hC.elim (Sm.own id o hi hb).2 fun hC=>hC.2 (.inl ⟨id,o,hi,hb,rfl⟩)⟩,Sm.inj⟩,?_,rfl,(fun b hb=>by cases hb),List.nodup_nil,?_,fun _ _=>⟨rfl,rfl⟩,?_⟩
 ·intro t v ht
  have WI:aj cx.yv (bJ c L1 L2) F w (kU (cm c) args) a9.toList:=(aj.mg (R:=cm c) (L:=L2) (L':=bJ c L1 L2) args _ fun i hi=>jr (hA i (dc i args hi))).2 K4;have:=yl (ps:=ps.toList) (t0:=tmps) (by simp[jd,hlen]) Jt WI (fun t v ht=>by
   obtain⟨y,hy,AW⟩:=i5 t v ht;exact⟨y,hy,aT.mono (Tr.refl F w) v y (fun j hj=>dF (hE j (ib ht hj)).2) AW⟩) t v ht
  rw[<- Array.foldl_toList,Array.toList_zip];exact this
 ·intro l' hl
  cases hl;have hb:jq base (RS.go x:RS α σ)=base:=by
   obtain⟨h1,h2⟩:=u5;cases base;simp only at h1 h2;subst h1;subst h2;rfl
  rw[hb]at i2;exact⟨base,⟨i2.1,rfl⟩,fun hC=>hC.elim i2.2 fun hC=>hC.2 (.inr rfl)⟩
 ·show((ps.zip a9).foldl (fun t (p,v)=>t.setIfInBounds p v) tmps).size<=1000000
  rw[<- Array.foldl_toList,qi];exact WC
theorem Bw{cx:Cx σ}{I:α->aq×σ}{x:α}{L1:Loc}{w:World}{F:Nat->Nat}(hg:(e7 cx I l m r base e1 tmps c tb pρ pκ F0 w0).HG (.go x,L1) w F)(NJ:r≠some l)(hc:1000000<=c/\c+64<=2000000)(hE:∀ i∈fO e1,pinned i/\aV c 64 i=false)
  {args:List V} {h:aq} {L2:Loc} (hh:bp (e7 cx I l m r base e1 tmps c tb pρ pκ F0 w0) L2 F h (.go x,L1) w) (eg:RX args h=true) {lp:Go.Loop} {m1:List Nat} {L3:Loc} {F3:Nat->Nat} {a:Act} {w3:World} {g:RS α σ} (AL:jq lp g=jq base g)
  (hd:Good (uq cx (I x).2 w F (uB (bJ c L1 L2) ((I x).1++df (cm c) h)) l (some lp) (bJ c L1 L2).ρ (bJ c L1 L2).κ) (some l) m1 L3 F3 ⟨[],g.heap I++df (cm c) h,g.st I⟩ a w3) (wM:Fb c tb (g.heap I)=true) (tr:Tr F w F3 w3) :
  ∃ L4 L5,bp (e7 cx I l m r base e1 tmps c tb pρ pκ F0 w0) L5 F3 h (g,L4) (w3.putObj l (.loop (jq base g)))/\Tr F w F3 (w3.putObj l (.loop (jq base g)))/\uC L2 L5 /\
   (∀ b,b<w.heap.size->¬ (e7 cx I l m r base e1 tmps c tb pρ pκ F0 w0).C (.go x,L1) b->¬ (e7 cx I l m r base e1 tmps c tb pρ pκ F0 w0).C (g,L4) b) /\
   (∀ b,b<w.heap.size->¬ (e7 cx I l m r base e1 tmps c tb pρ pκ F0 w0).C (.go x,L1) b->(∀ id o,get h id=some o->aJ L2 id o->L2.ρ id≠b)->(w3.putObj l (.loop (jq base g))).heap[b]?=w.heap[b]?/\F3 b=F b) /\
   (∀ id o,get h id=some o->aJ L5 id o->L5.ρ id<w.heap.size -> ∃ mI o',get h mI=some o'/\aJ L2 mI o'/\L2.ρ mI=L5.ρ id):=by
 obtain⟨i1,i2,i3,i4,i5,i6,i7,i8⟩:=hg;simp only[RS.heap,RS.st]at i1 i2 i3 i4 i8;simp only[RX,Bool.and_eq_true]at eg;obtain⟨⟨hA,hB⟩,SJ⟩:=eg;have hB:=dW hB;have hC:=rA i8;have So:=rA wM;obtain⟨AH,cY,EG,iG⟩:=hd.heap.hg;obtain⟨ZX,⟨k1,k2⟩,k3⟩:=hd.lk l rfl;have k2:some lp=some ZX:=k2;cases k2;have Zj:¬ cx.C (g.st I) l:=fun h=>k3 (.inl h);have py:∀ i,aV c 64 i=true->pinned i:=fun i hi=>by rw[eM]at hi;unfold pinned;omega
 have nr:∀ i,aV 1000000 64 i=true->L3.ρ (cm c i)=L2.ρ i/\L3.κ (cm c i)=L2.κ i:=by
  intro i hi;obtain⟨p1,p2⟩:=hd.mT (cm c i) (by obtain⟨q1,q2,q3⟩:=lY (c:=c) hi;unfold pinned;omega);obtain⟨p3,p4⟩:=jr (c:=c) (L:=L1) (L2:=L2) hi;exact⟨p1.trans p3,p2.trans p4⟩
 let L4:Loc:=⟨fun j=>if aV c 64 j then L1.ρ j else L3.ρ j,fun j=>if aV c 64 j then L1.κ j else L3.κ j⟩
 have Vy:∀ j,aV c 64 j=false->L4.ρ j=L3.ρ j/\L4.κ j=L3.κ j:=fun j hj=>by simp[L4,hj]
 have QT:∀ i,pinned i->L4.ρ i=L1.ρ i/\L4.κ i=L1.κ i:=by
  intro i hi
  cases hr:aV c 64 i with
  | true=>simp[L4,hr]
  | false=>
   obtain⟨p1,p2⟩:=hd.mT i hi;obtain⟨p3,p4⟩:=dF (L:=L1) (L2:=L2) hr;obtain⟨p5,p6⟩:=Vy i hr;exact⟨p5.trans (p1.trans p3),p6.trans (p2.trans p4)⟩
 have nA:Tr F3 w3 F3 (w3.putObj l (.loop (jq base g))):=Tr.Tl k1 (fun _ _ _ h=>by cases h) (fun _ _ h=>by cases h) (fun _ _ _ h=>by cases h);have hk:∀ y,y≠l->(w3.putObj l (.loop (jq base g))).heap[y]?=w3.heap[y]?:=fun y hy=>World.putObj_heap_other hy;have nh:∀ id o,get (g.heap I++df (cm c) h) id=some o->aJ L3 id o->L3.ρ id≠l:=fun id o hi hb e=>(bF.ry (hd.heap.obj id o hi) hb (by rw[e];exact k1)).1 _ rfl;have EX:=hd.heap.JE (F':=F3) nA (fun b hb=>hd.heap.fresh b (by simpa using hb)) (fun b hb=>⟨hk b (by rintro rfl;exact k3 hb),rfl⟩) (fun id o hi hb=>⟨hk _ (nh id o hi hb),rfl⟩);obtain⟨Vu,_,_,_⟩:=EX.hg;have kZ:∀ i o,get (g.heap I) i=some o->get (g.heap I++df (cm c) h) i=some o:=fun i o hi=>ng hi;have zk:∀ i o,get h i=some o->get (g.heap I++df (cm c) h) (cm c i)=some (iD (cm c) o):=by
  intro i o hi;obtain⟨n1,_⟩:=aU hi;have AR:get (g.heap I) (cm c i)=none:=by
   cases hq:get (g.heap I) (cm c i) with
   | none=>rfl
   | some o'=>
    have:=(So _ (aU hq).1).1;obtain⟨q1,q2,q3⟩:=lY (c:=c) (hB i n1);rw[show aV c 64 (cm c i)=true from by rw[eM];omega]at this;cases this
  refine sf AR (ta (fun j hj e=>?_) hi);obtain⟨q1,q2,q3⟩:=lY (c:=c) (hB i n1);obtain⟨q4,q5,q6⟩:=lY (c:=c) (hB j hj);omega
 have Ja:∀ i o,get h i=some o->(aJ L3 (cm c i) (iD (cm c) o)↔aJ L2 i o):=fun i o hi=>bX (R:=cm c) (L:=L2) (L':=L3) i o (nr i (hB i (aU hi).1)).2;have Ho:∀ i o,get (g.heap I) i=some o->L4.ρ i=L3.ρ i/\L4.κ i=L3.κ i:=fun i o hi=>Vy i (So i (aU hi).1).1;have GU:∀ b,uB (bJ c L1 L2) ((I x).1++df (cm c) h) b->uB L1 (I x).1 b \/ ∃ j p,get h j=some p/\aJ L2 j p/\L2.ρ j=b:=by
  rintro b ⟨j,p,hj,jv,e⟩
  cases hq:get (I x).1 j with
  | some p'=>
   have:p'=p:=by
    have:=ng (k:=df (cm c) h) hq;rw[hj]at this;exact(Option.some.inj this).symm
   subst this;obtain⟨q1,q2⟩:=dF (L:=L1) (L2:=L2) (hC j (aU hq).1).1;exact .inl ⟨j,p',hq,ez q2 jv,by rw[<- q1];exact e⟩
  | none=>
   have AN:get (df (cm c) h) j=some p:=by
    have V0:∀ (k:aq),get k j=none -> ∀ k',get (k++k') j=get k' j:=by
     intro k
     induction k with
     | nil=>intro _ _;rfl
     | cons kv r ih=>
      obtain⟨u,v⟩:=kv;intro h1 k';simp only[List.cons_append,get]at h1 ⊢;split at h1
      ·cases h1
      ·exact ih h1 k'
    rw[<- V0 _ hq];exact hj
   obtain⟨j',p',Rg,rfl,rfl⟩:=kn AN;obtain⟨q3,q4⟩:=jr (c:=c) (L:=L1) (L2:=L2) (hB j' (aU Rg).1);exact .inr ⟨j',p',Rg,(bX (R:=cm c) (L:=L2) (L':=bJ c L1 L2) j' p' q4).1 jv,by rw[<- q3];exact e⟩
 have AS:∀ i o,get (g.heap I) i=some o->aJ L4 i o->¬ cx.C (g.st I) (L3.ρ i)/\F3 (L3.ρ i)=0/\L3.ρ i≠l/\(L3.ρ i<w.heap.size->uB L1 (I x).1 (L3.ρ i)) /\ ∀ j p,get h j=some p->aJ L2 j p->L3.ρ i≠L2.ρ j:=by
  intro i o hi hb;have DK:aJ L3 i o:=ez (Ho i o hi).2 hb;obtain⟨p1,p2⟩:=hd.heap.own i o (kZ i o hi) DK;have ef:∀ j p,get h j=some p->aJ L2 j p->L3.ρ i≠L2.ρ j:=by
   intro j p hj jv e;obtain⟨n1,_⟩:=aU hj;have:=hd.heap.inj i (cm c j) o _ (kZ i o hi) (zk j p hj) DK ((Ja j p hj).2 jv) (by rw[(nr j (hB j n1)).1];exact e);have h1:=(So i (aU hi).1).1;rw[this]at h1;obtain⟨q1,q2,q3⟩:=lY (c:=c) (hB j n1);rw[show aV c 64 (cm c j)=true from by rw[eM];omega]at h1;cases h1
  refine⟨fun h=>p2 (.inl h),p1,nh i o (kZ i o hi) DK,fun dI=>?_,ef⟩;have:uB (bJ c L1 L2) ((I x).1++df (cm c) h) (L3.ρ i)\/L3.ρ i=l:=Classical.byContradiction fun hn=>p2 (.inr ⟨dI,hn⟩);rcases this with ho|e
  ·rcases GU _ ho with ho|⟨j,p,hj,jv,e⟩
   ·exact ho
   ·exact absurd e.symm (ef j p hj jv)
  ·exact absurd e (nh i o (kZ i o hi) DK)
 have lW:∀ b,b<w.heap.size->¬ uB (bJ c L1 L2) ((I x).1++df (cm c) h) b->b≠l->¬ cx.C (I x).2 b->(w3.putObj l (.loop (jq base g))).heap[b]?=w.heap[b]?/\F3 b=F b:=fun b hb ho hl hC=>by
  obtain⟨q1,q2⟩:=iG b hb (fun h=>h.elim ho hl) hC;exact⟨(hk b hl).trans q1,q2⟩
 have Q7:∀ b o,w.heap[b]?=some o->((∃ lp,o = .loop lp) \/ ∃ d,o = .deferred d)->¬ uB (bJ c L1 L2) ((I x).1++df (cm c) h) b:=by
  intro b o hb ho Wj;have:(∀ lp,o ≠ .loop lp)/\(∀ d,o ≠ .deferred d):=by
   rcases GU b Wj with⟨j,p,hj,jv,e⟩|⟨j,p,hj,jv,e⟩
   ·exact bF.ry (i1.obj j p hj) jv (by rw[e];exact hb)
   ·exact bF.ry (hh.obj j p hj) jv (by rw[e];exact hb)
  rcases ho with⟨lp,rfl⟩|⟨d,rfl⟩
  ·exact this.1 _ rfl
  ·exact this.2 _ rfl
 refine⟨L4,L2,?_,Tr.trans tr nA,fun _ _=>⟨rfl,rfl⟩,?_,?_,fun id o hi hb _=>⟨id,o,hi,hb,rfl⟩⟩
 ·have Me:Lm cx I l m r base e1 tmps c tb pρ pκ F0 w0 (g,L4) (w3.putObj l (.loop (jq base g))) F3:=by
   refine⟨⟨Vu,fun b hb=>EX.j6 b (.inl hb),EX.fresh,fun i o hi=>?_,fun i o hi hb=>?_,fun i j o p hi hj hb kR e=>?_⟩,⟨World.putObj_heap_same (bH k1),Zj⟩,fun b hb=>?_,fun l0 BW=>?_,fun t v ht=>?_,fun i hi=>?_,Tr.trans i7 (Tr.trans tr nA),wM⟩
   ·refine bF.mono (Tr.refl _ _) i o (fun j hj=>Vy j (So j ((aU hi).2 j (ed j o hj))).1) (Ho i o hi) (fun _=>rfl) (EX.obj i o (kZ i o hi))
   ·obtain⟨z1,z2,_⟩:=AS i o hi hb
    show F3 (L4.ρ i)=0/\¬ cx.C (g.st I) (L4.ρ i);rw[(Ho i o hi).1];exact⟨z2,z1⟩
   ·have e:L4.ρ i=L4.ρ j:=e
    rw[(Ho i o hi).1,(Ho j p hj).1]at e;exact hd.heap.inj i j o p (kZ i o hi) (kZ j p hj) (ez (Ho i o hi).2 hb) (ez (Ho j p hj).2 kR) e
   ·obtain⟨z1,z2⟩:=i3 b hb
    have dI:=bH z1;have Ja:b≠l:=by rintro rfl;rw[i2.1]at z1;cases z1
    exact⟨by rw[(lW b dI (Q7 b _ z1 (.inr ⟨_,rfl⟩)) Ja z2).1];exact z1,EG b dI z2⟩
   ·obtain⟨SM,⟨z1,z0⟩,z2⟩:=i4 l0 BW
    have dI:=bH z1;have Ja:l0≠l:=by rintro rfl;exact NJ BW
    exact⟨SM,⟨by rw[(lW l0 dI (Q7 l0 _ z1 (.inl ⟨_,rfl⟩)) Ja z2).1];exact z1,z0⟩,EG l0 dI z2⟩
   ·obtain⟨y,hy,AW⟩:=i5 t v ht
    exact⟨y,hy,aT.mono (Tr.trans tr nA) v y (fun j hj=>QT j (hE j (ib ht hj)).1) AW⟩
   ·obtain⟨p1,p2⟩:=QT i hi
    obtain⟨p3,p4⟩:=i6 i hi;exact⟨p1.trans p3,p2.trans p4⟩
  refine⟨Me,fun b hb=>?_,EX.fresh,fun i o hi=>?_,fun i o hi hb=>?_,fun i j o p hi hj hb kR e=>hh.inj i j o p hi hj hb kR e⟩
  ·rcases hb with hb|⟨id,o,hi,hb,e⟩|rfl|hb|hb
   ·exact EX.j6 b (.inl hb)
   ·have dI:=(hd.heap.obj id o (kZ id o hi)).lt (ez (Ho id o hi).2 hb)
    have e:L4.ρ id=b:=e;rw[(Ho id o hi).1]at e;rw[<- e];simpa using dI
   ·simpa using bH k1
   ·exact bH (Me.pR b hb).1
   ·obtain⟨SM,⟨z1,_⟩,_⟩:=Me.out b hb
    exact bH z1
  ·have h1:=EX.obj _ _ (zk i o hi)
   have h2:=(bF.mg (R:=cm c) (L:=L2) (L':=L3) i o (fun j hj=>nr j (hB j ((aU hi).2 j (ed j o hj)))) (nr i (hB i (aU hi).1))).1 h1;exact bF.g7 o (oK SJ.2 hi) h2
  ·have DK:=(Ja i o hi).2 hb
   obtain⟨z1,z2⟩:=hd.heap.own _ _ (zk i o hi) DK;have hp:=(nr i (hB i (aU hi).1)).1;rw[hp]at z1 z2;refine⟨z1,?_⟩;rintro (GR|⟨id,o',IA,kR,e⟩|e|hm|hm)
   ·exact z2 (.inl GR)
   ·obtain⟨_,_,_,_,z⟩:=AS id o' IA kR
    have e:L4.ρ id=L2.ρ i:=e;rw[(Ho id o' IA).1]at e;exact z i o hi hb e
   ·exact nh _ _ (zk i o hi) DK (by rw[hp];exact e)
   ·exact(hh.own i o hi hb).2 (.inr (.inr (.inr (.inl hm))))
   ·exact(hh.own i o hi hb).2 (.inr (.inr (.inr (.inr hm))))
 ·intro b hb hC GR
  rcases GR with GR|⟨id,o',IA,kR,e⟩|e|hm|hm
  ·exact EG b hb (fun h=>hC (.inl h)) GR
  ·obtain⟨_,_,_,z,_⟩:=AS id o' IA kR
   have e:L4.ρ id=b:=e;rw[(Ho id o' IA).1]at e;rw[e]at z;exact hC (.inr (.inl (z hb)))
  ·exact hC (.inr (.inr (.inl e)))
  ·exact hC (.inr (.inr (.inr (.inl hm))))
  ·exact hC (.inr (.inr (.inr (.inr hm))))
 ·intro b hb hC SE
  refine lW b hb ?_ (fun e=>hC (.inr (.inr (.inl e)))) (fun h=>hC (.inl h));intro Wj;rcases GU b Wj with ho|⟨j,p,hj,jv,e⟩
  ·exact hC (.inr (.inl ho))
  ·exact SE j p hj jv e
end
section
variable {P : Program} {T : dV} {ft : FT} {α σ : Type} {Y : Hd σ} {cx : Cx σ} {I : α -> aq × σ} {l : Nat} {m : List Nat} {r : Option Nat} {base : Go.Loop} {e1 : Env} {tmps : Array Value} {c : Nat} {tb : List Nat} {pρ pκ : Nat -> Nat} {F0 : Nat -> Nat} {w0 : World}
theorem wY(hT:bl P T){ps:Array Tmp}{a b:Code}(I8:cy P T ft a)(I9:cy P T ft b)(hY:dp P Y cx)(NJ:r≠some l)
  (nY:base.params=ps) (wJ:base.assign=a) (DK:base.body=b) (VF:base.tmps=tmps) (u5:base.state = .ready/\base.pending=none)
  (Jt:∀ p∈ps.toList,p<tmps.size) (WC:tmps.size<=1000000) (VK:codeOk tmps.size a=true) (VL:codeOk tmps.size b=true) (hc:1000000<=c/\c+64<=2000000) (hE:∀ i∈fO e1,pinned i/\aV c 64 i=false) :
  dp P (A7 (oy P T ft Y I ps a b e1 c tb)) (e7 cx I l m r base e1 tmps c tb pρ pκ F0 w0):=by
 refine⟨?_,fun s w F hh=>hY.laid _ w F hh.heap.hg⟩;intro l' hl args h s Q hy L2 F a9 w hh hr;cases hl;obtain⟨g,L1⟩:=s
 cases g with
 | done e hd s=>exact hy.elim
 | go x=>
  obtain⟨⟨hlen,eg⟩,hy⟩:=hy;have AH:=hh.hg;have hi:=AH.xZ.1;have Hg:jq base (RS.go x:RS α σ)=base:=by
   obtain⟨h1,h2⟩:=u5;cases base;simp only at h1 h2;subst h1;subst h2;rfl
  have hi:w.heap[l]?=some (.loop base):=by rw[<- Hg];exact hi
  have DT:a9.size=base.params.size:=by
   have:=hr.length;rw[nY,<- hlen];simpa using this
  refine⟨base.fn,_,base.assign,base.body,run_yield hi DT,?_⟩;refine roundIn_of_wpIn (F:=Fence.wide) trivial ?_;have hg:=Bv AH u5 Jt WC hc hE hh hr hlen eg;have Xt:dp P Y (uq cx (I x).2 w F (uB (bJ c L1 L2) ((I x).1++df (cm c) h)) l (some base) (bJ c L1 L2).ρ (bJ c L1 L2).κ):=(n8 hY).XU _ _ _;have cY:((ps.zip a9).foldl (fun t (p,v)=>t.setIfInBounds p v) tmps).size=tmps.size:=by rw[<- Array.foldl_toList,qi]
  rw[nY,wJ,DK,VF];have hA:=cL hT a I8 _ _ hy _ Xt.np (some l) [] _ F _ w hg (by rw[cY];exact VK);refine wpIn_mono hA fun ex a1 w1 hq=>?_;rcases hq with⟨e',zK,m1,L3,F3,rfl,hk,fP,yq,wE⟩|⟨_,_,_,_,_,_,_,_,hp,_⟩
  case inr=>exact hp.elim
  cases e' with
  | exit i=>exact hk.elim
  | ret=>exact hk.elim
  | normal=>
   obtain⟨lp,⟨q1,q2⟩,_⟩:=fP.lk l rfl;have q2:some base=some lp:=q2;cases q2;refine⟨_,run_beginRound q1 u5.1,?_⟩;obtain⟨mf,FV⟩:=fP.record { base with state:=.busy };have VC:dp P Y { uq cx (I x).2 w F (uB (bJ c L1 L2) ((I x).1++df (cm c) h)) l (some base) (bJ c L1 L2).ρ (bJ c L1 L2).κ with xZ:=some { base with state:=.busy } }:=Xt.XU (some { base with state:=.busy }) _ _;have hB:=cL hT b I9 _ _ hk _ VC.np (some l) m1 L3 F3 _ _ mf (by rw[wE];show codeOk (Array.size _) b=true;rw[cY];exact VL);refine wpIn_mono hB fun ex a2 w2 hq=>?_;rcases hq with⟨To,sL,m2,L4,F4,rfl,iQ,Sv,tr3,hs3⟩|⟨_,_,_,_,_,_,_,_,hp,_⟩
   case inr=>exact hp.elim
   have trA:Tr F w F4 w2:=Tr.trans yq (Tr.trans FV tr3);have fin:∀ (g:RS α σ) (A1:Option Code) (v:Bool),jq base g={ base with state:=if A1.isNone then .ready else .done,pending:=A1 }->v=A1.isNone->Wk sL ⟨[],g.heap I++df (cm c) h,g.st I⟩->Fb c tb (g.heap I)=true ->
     (∀ L',Q (.d (.bool v)) h (g,L')) -> ∃ u w',(Instr.endRound l A1).run P w2 = .ok u w' /\ ∃ XX,Ending.returned u = .returned XX /\ ∃ v h' s' L' F',Q v h' s'/\bp (e7 cx I l m r base e1 tmps c tb pρ pκ F0 w0) L' F' h' s' w' /\
      aT (e7 cx I l m r base e1 tmps c tb pρ pκ F0 w0).yv L' F' w' v XX/\Tr F w F' w'/\uC L2 L' /\
      (∀ b,b<w.heap.size->¬ (e7 cx I l m r base e1 tmps c tb pρ pκ F0 w0).C (.go x,L1) b->¬ (e7 cx I l m r base e1 tmps c tb pρ pκ F0 w0).C s' b) /\
      (∀ b,b<w.heap.size->¬ (e7 cx I l m r base e1 tmps c tb pρ pκ F0 w0).C (.go x,L1) b->(∀ id o,get h id=some o->aJ L2 id o->L2.ρ id≠b)->w'.heap[b]?=w.heap[b]?/\F' b=F b) /\
      (∀ id o,get h' id=some o->aJ L' id o->L'.ρ id<w.heap.size -> ∃ mI o',get h mI=some o'/\aJ L2 mI o'/\L2.ρ mI=L'.ρ id):=by
    intro g A1 v Hg hv Hn wM hQ;obtain⟨L5,F5,Xy,NP⟩:=Hn _ _ _ _ _ _ _ Sv;obtain⟨lp,⟨q3,q4⟩,_⟩:=Xy.lk l rfl;have q4:some ({ base with state:=.busy }:Go.Loop)=some lp:=q4;cases q4;have rj:=run_endRound (P:=P) A1 q3;have heq:({ ({ base with state:=.busy }:Go.Loop) with state:=if A1.isNone then .ready else .done,pending:=A1 }:Go.Loop)=jq base g:=Hg.symm;obtain⟨L6,L7,z1,z2,z3,z4,z5,z6⟩:=Bw AH NJ hc hE hh eg (g:=g) (by cases g<;>rfl) Xy wM (Tr.trans trA NP);rw[heq]at rj;exact⟨_,_,rj,_,rfl,_,h,(g,L6),L7,F5,hQ L6,z1,by rw[hv];exact rfl,z2,z3,z4,z5,z6⟩
   cases To with
   | normal=>
    obtain⟨x',Hn,wM,hQ⟩:=iQ;exact fin (.go x') none true rfl rfl Hn wM hQ
   | ret=>
    obtain⟨hd,s',Hn,wM,hQ⟩:=iQ;exact fin (.done .ret hd s') (some .ret) false rfl rfl Hn wM hQ
   | exit i=>
    obtain⟨hd,s',Hn,wM,hQ⟩:=iQ;exact fin (.done (.exit i) hd s') (some (.exit i)) false rfl rfl Hn wM hQ
end
def ox(c1 c2:Nat)(tb:List Nat)(e:Env)(h:aq):Bool:=
 fS tb&&tI (fun i=>Nat.blt i 1000000) tb&&Nat.ble 1000000 c1&&Nat.ble (c1+tb.length) 2000000&&Nat.ble 1000000 c2&&Nat.ble (c2+64) 2000000&&tI (fun k=>!aV c2 64 (c1+k)) (List.range tb.length) &&
  tI (fun i=>tQ tb i||(Nat.ble 1000000 i&&Nat.blt i 2000000 && !aV c1 tb.length i && !aV c2 64 i)) (fO e) &&
  tI (fun i=>!aV c1 tb.length i) (bk h)
section
variable {c1 : Nat} {tb : List Nat}
theorem Cd{k i:Nat}(h:tb[k]?=some i):nO c1 tb (c1+k)=i:=by
 unfold nO;rw[Nat.ble_eq_true_of_le (Nat.le_add_right c1 k),Nat.add_sub_cancel_left,h]
theorem oO{i:Nat}(h:aV c1 tb.length i=false):nO c1 tb i=i:=by
 unfold nO;split
 ·rename_i hb
  have hb:=Nat.le_of_ble_eq_true hb;have:tb[i-c1]?=none:=by
   rw[List.getElem?_eq_none_iff];rcases Nat.lt_or_ge (i-c1) tb.length with dI|G0
   ·rw[show aV c1 tb.length i=true from by rw[eM];omega]at h;cases h
   ·exact G0
  rw[this]
 ·rfl
theorem Dd{k i:Nat}(hn:tb.Nodup)(h:tb[k]?=some i):nD c1 tb i=c1+k:=by
 unfold nD
 cases hx:idx tb c1 i with
 | none=>exact absurd (List.mem_of_getElem? h) (AY hx)
 | some j=>
  obtain⟨h1,h2⟩:=vi hx;have:=su hn h2 h;show j=c1+k;omega
theorem m6{i:Nat}(h:i∉tb):nD c1 tb i=i:=by
 unfold nD
 cases hx:idx tb c1 i with
 | none=>rfl
 | some j=>exact absurd (List.mem_of_getElem? (vi hx).2) h
end
mutual
theorem tq{R:Nat->Nat}:∀ (v:V) (i:Nat),i∈bC (aE (iy R) v) -> ∃ j∈bC v,i=R j
 | .d _,i,h=>by cases h
 | .agg cs,i,h=>iw cs i h
 | .tup cs,i,h=>iw cs i h
 | .clo _ cs,i,h=>iw cs i h
 | .ifc _ cs,i,h=>iw cs i h
 | .ptr j _,i,h=>⟨j,by simp[bC],by simpa[aE,iy,bC]using h⟩
 | .ep j _ _ _,i,h=>⟨j,by simp[bC],by simpa[aE,iy,bC]using h⟩
 | .sl j _ _ _,i,h=>⟨j,by simp[bC],by simpa[aE,iy,bC]using h⟩
 | .mp j,i,h=>⟨j,by simp[bC],by simpa[aE,iy,bC]using h⟩
 | .it j,i,h=>⟨j,by simp[bC],by simpa[aE,iy,bC]using h⟩
 | .yld,i,h=>by cases h
 | .unk,i,h=>by cases h
theorem iw{R:Nat->Nat}:∀ (vs:List V) (i:Nat),i∈bU (cb (iy R) vs) -> ∃ j∈bU vs,i=R j
 | [],i,h=>by cases h
 | v::r,i,h=>by
  rcases List.mem_append.1 (show i∈bC (aE (iy R) v)++bU (cb (iy R) r) from h) with h|h
  ·obtain⟨j,hj,rfl⟩:=tq v i h
   exact⟨j,List.mem_append.2 (.inl hj),rfl⟩
  ·obtain⟨j,hj,rfl⟩:=iw r i h
   exact⟨j,List.mem_append.2 (.inr hj),rfl⟩
end
section
variable {P : Program} {T : dV} {ft : FT} {α σ : Type} {Y : Hd σ}
theorem jw.wk{g:Operand}{ps:Array Tmp}{a b:Code}{st dm:St σ}{K:dX->St σ->Prop}(hw:Wk st dm)(h:jw P ft Y g ps a b dm K):jw P ft Y g ps a b st K:=by
 obtain⟨h⟩:=h;exact⟨wG.wk hw h⟩
theorem B1(hT:bl P T){g:Operand}{ps:Array Tmp}{a b:Code}(I8:cy P T ft a)(I9:cy P T ft b){f:FuncId}{aL:List D}{e:Env}{h:aq}{s:σ}{K:dX->St σ->Prop}(Mw:aH e g=some (.d (.clo f aL)))
  (c1 c2:Nat) (tb:List Nat) (I:α->aq×σ) (x0:α) (mE:ox c1 c2 tb e h=true) (hI:I x0=(df (nD c1 tb) h,s)) (Cq:Fb c2 tb (I x0).1=true)
  (hf:∀ L,FM P (A7 (oy P T ft Y I ps a b (sF (nD c1 tb) e) c2 tb)) f (.yld::inj aL) [] (.go x0,L) fun v h' g=>h' = []/\match g.1 with
   | .go x=>K .normal ⟨e,df (nO c1 tb) (I x).1,(I x).2⟩
   | .done ex hd s'=>K ex ⟨e,df (nO c1 tb) hd,s'⟩):jw P ft Y g ps a b ⟨e,h,s⟩ K:=by
 constructor;intro cx hY r m L F aa w hg hc;simp only[codeOk,Bool.and_eq_true]at hc;obtain⟨⟨Jt,VK⟩,VL⟩:=hc;have Jt:∀ p∈ps.toList,p<aa.tmps.size:=fun p hp=>of_decide_eq_true (List.all_eq_true.1 Jt p hp);simp only[ox,Bool.and_eq_true]at mE;obtain⟨⟨⟨⟨⟨⟨⟨⟨k1,k2⟩,k3⟩,k4⟩,k5⟩,k6⟩,k7⟩,k8⟩,k9⟩:=mE;have tO:=gT k1;have M7:∀ i∈tb,i<1000000:=fun i hi=>Nat.le_of_ble_eq_true (dW k2 i hi);have k3:=Nat.le_of_ble_eq_true k3;have k4:=Nat.le_of_ble_eq_true k4;have k5:=Nat.le_of_ble_eq_true k5;have k6:=Nat.le_of_ble_eq_true k6;have k7:∀ k,k<tb.length->aV c2 64 (c1+k)=false:=fun k hk=>by
  have:=dW k7 k (List.mem_range.2 hk);simpa using this
 have k8:∀ i∈fO e,i∈tb\/(pinned i/\aV c1 tb.length i=false/\aV c2 64 i=false):=by
  intro i hi;have:=dW k8 i hi;simp only[Bool.or_eq_true,Bool.and_eq_true,Bool.not_eq_true']at this;exact this.imp eZ.1 fun h=>⟨⟨Nat.le_of_ble_eq_true h.1.1.1,Nat.le_of_ble_eq_true h.1.1.2⟩,h.1.2,h.2⟩
 have k9:∀ i∈bk h,aV c1 tb.length i=false:=fun i hi=>by simpa using dW k9 i hi
 have RG:∀ i∈tb,aV c1 tb.length i=false:=fun i hi=>by
  cases hr:aV c1 tb.length i with
  | false=>rfl
  | true=>rw[eM]at hr;have:=M7 i hi;omega
 have Su:∀ i,aV c1 tb.length i=false->nO c1 tb (nD c1 tb i)=i:=by
  intro i hi;by_cases hm:i∈tb
  ·obtain⟨k,hk⟩:=List.mem_iff_getElem?.1 hm
   rw[Dd tO hk,Cd hk]
  ·rw[m6 hm,oO hi]
 have ZI:∀ i,i∉tb->nD c1 tb (nO c1 tb i)=i:=by
  intro i hi
  cases hr:aV c1 tb.length i with
  | false=>rw[oO hr,m6 hi]
  | true=>
   rw[eM]at hr;obtain⟨k,hk⟩:∃ k,i=c1+k:=⟨i-c1,by omega⟩;obtain⟨y,hy⟩:∃ y,tb[k]?=some y:=⟨_,List.getElem?_eq_getElem (by omega)⟩;rw[hk,Cd hy,Dd tO hy]
 have KT:∀ i∈fO e,aV c1 tb.length i=false:=fun i hi=>(k8 i hi).elim (RG i) (fun h=>h.2.1);have hE:∀ i∈fO (sF (nD c1 tb) e),pinned i/\aV c2 64 i=false:=by
  have MR:∀ (e:Env),∀ i∈fO (sF (nD c1 tb) e),∃ j∈fO e,i=nD c1 tb j:=by
   intro e
   induction e with
   | nil=>intro i hi;cases hi
   | cons kv r ih=>
    obtain⟨k,v⟩:=kv;intro i hi;rcases List.mem_append.1 hi with hi|hi
    ·obtain⟨j,hj,rfl⟩:=tq v i hi
     exact⟨j,List.mem_append.2 (.inl hj),rfl⟩
    ·obtain⟨j,hj,rfl⟩:=ih i hi
     exact⟨j,List.mem_append.2 (.inr hj),rfl⟩
  intro i hi;obtain⟨j,hj,rfl⟩:=MR e i hi;rcases k8 j hj with hm|⟨h1,h2,h3⟩
  ·obtain⟨k,hk⟩:=List.mem_iff_getElem?.1 hm
   have dI:=(List.getElem?_eq_some_iff.1 hk).1;rw[Dd tO hk];exact⟨by unfold pinned;omega,k7 k dI⟩
  ·have:j∉tb:=fun hm=>by have:=M7 j hm;unfold pinned at h1;omega
   rw[m6 this];exact⟨h1,h3⟩
 obtain⟨lc,cF,kq⟩:=hg.aH Mw;have YL:(I x0).1=df (nD c1 tb) h:=by rw[hI]
 have Sp:(I x0).2=s:=by rw[hI]
 refine wpIn_rangeFunc fun fn _=>?_;have enter:∃ (base:Go.Loop) (l:Nat) (mk:List Nat) (W1:World),(Instr.enterLoop fn aa.tmps ps a b r).run P w = .ok (l,mk.map mark) W1/\(base.params=ps/\base.assign=a/\base.body=b/\base.tmps=aa.tmps/\base.state = .ready/\base.pending=none) /\
   W1.heap[l]?=some (.loop base)/\w.heap.size<=l/\(∀ x,x<w.heap.size->W1.heap[x]?=w.heap[x]?)/\Tr F w F W1/\w.heap.size<=W1.heap.size/\mk.Nodup /\ ∀ x∈mk,w.heap.size<=x/\W1.heap[x]?=some (.deferred (some [])):=by
  cases r with
  | none=>
   refine⟨{ state:=.ready,pending:=none,fn,tmps:=aa.tmps,params:=ps,assign:=a,body:=b,defers:=w.heap.size },_,[w.heap.size],_,run_enterLoop_outer fn aa.tmps ps a b,⟨rfl,rfl,rfl,rfl,rfl,rfl⟩,?_,by omega,fun x hx=>?_,Tr.trans (Tr.alloc hg.heap.fresh _) (Tr.alloc (fun b hb=>hg.heap.fresh b (by simp at hb;omega)) _),by simp;omega,by simp,fun x hx=>?_⟩
   ·have:=World.alloc_heap_new (w.alloc (.deferred (some []))) (.loop { state:=.ready,pending:=none,fn,tmps:=aa.tmps,params:=ps,assign:=a,body:=b,defers:=w.heap.size })
    rwa [World.size_alloc]at this
   ·rw[heap_alloc_old _ _ (by simp;omega),heap_alloc_old _ _ hx]
   ·rw[List.mem_singleton]at hx
    subst hx;exact⟨Nat.le_refl _,by rw[heap_alloc_old _ _ (by simp)];exact World.alloc_heap_new w _⟩
  | some l0=>
   obtain⟨lp,⟨q1,_⟩,_⟩:=hg.lk l0 rfl;refine⟨{ state:=.ready,pending:=none,fn,tmps:=aa.tmps,params:=ps,assign:=a,body:=b,defers:=lp.defers },_,[],_,run_enterLoop_inner q1 fn aa.tmps ps a b,⟨rfl,rfl,rfl,rfl,rfl,rfl⟩,World.alloc_heap_new w _,Nat.le_refl _,fun x hx=>heap_alloc_old _ _ hx,Tr.alloc hg.heap.fresh _,by simp,List.nodup_nil,fun x hx=>by cases hx⟩
 obtain⟨base,l,mk,W1,lV,⟨nY,wJ,DK,VF,VG,VH⟩,hl,Zm,hold,yq,Wy,MH,Wc⟩:=enter;have fP:=hg.HI yq (fun x hx=>⟨hold x hx,rfl⟩) (fun x hx=>hg.heap.fresh x (Nat.le_trans Wy hx));have NJ:r≠some l:=by
  rintro rfl;obtain⟨lp,⟨q1,_⟩,_⟩:=hg.lk l rfl;have:=bH q1;omega
 let L1:Loc:=⟨fun j=>L.ρ (nO c1 tb j),fun j=>L.κ (nO c1 tb j)⟩
 have Xp:∀ i,aV c1 tb.length i=false->L1.ρ (nD c1 tb i)=L.ρ i/\L1.κ (nD c1 tb i)=L.κ i:=fun i hi=>by
  show L.ρ (nO c1 tb (nD c1 tb i))=L.ρ i/\L.κ (nO c1 tb (nD c1 tb i))=L.κ i;rw[Su i hi];exact⟨rfl,rfl⟩
 have FR:∀ x,w.heap.size<=x->¬ cx.C s x:=fun x hx hC=>by have:=hg.heap.j6 x hC;omega
 have u5:jq base (RS.go x0:RS α σ)=base:=by
  cases base;simp only at VG VH;subst VG;subst VH;rfl
 have AH:Lm cx I l (mk++m) r base (sF (nD c1 tb) e) aa.tmps c2 tb L1.ρ L1.κ F W1 (.go x0,L1) W1 F:=by
  refine⟨?_,⟨by rw[u5];exact hl,by show ¬ cx.C (I x0).2 l;rw[Sp];exact FR l Zm⟩,fun x hx=>?_,fun l0 h0=>?_,fun t v ht=>?_,fun _ _=>⟨rfl,rfl⟩,Tr.refl F W1,Cq⟩
  ·show bp cx L1 F (I x0).1 (I x0).2 W1
   rw[YL,Sp];exact fP.heap.mg fun i hi=>Xp i (k9 i hi)
  ·show _/\¬ cx.C (I x0).2 x
   rw[Sp];rcases List.mem_append.1 hx with hx|hx
   ·exact⟨(Wc x hx).2,FR x (Wc x hx).1⟩
   ·exact fP.pR x hx
  ·show ∃ lp,_/\¬ cx.C (I x0).2 l0
   rw[Sp];exact fP.lk l0 h0
  ·simp only[sF,bs]at ht
   cases h0:get e t with
   | none=>simp[h0]at ht
   | some v0=>
    simp[h0]at ht;subst ht;obtain⟨x,hx,hr⟩:=fP.env t v0 h0;exact⟨x,hx,(aT.mg (R:=nD c1 tb) (L:=L) (L':=L1) v0 x fun i hi=>Xp i (KT i (ib h0 hi))).2 hr⟩
 have QQ:bp (e7 cx I l (mk++m) r base (sF (nD c1 tb) e) aa.tmps c2 tb L1.ρ L1.κ F W1) L1 F [] (.go x0,L1) W1:=by
  refine⟨AH,fun x hx=>?_,fP.heap.fresh,(fun _ _ h=>by cases h),(fun _ _ h=>by cases h),(fun _ _ _ _ h=>by cases h)⟩;rcases hx with hx|⟨id,o,hi,hb,hx⟩|hx|hx|hx
  ·exact AH.heap.j6 x hx
  ·rw[<- hx];exact(AH.heap.obj id o hi).lt hb
  ·rw[hx];exact bH hl
  ·exact bH (AH.pR x hx).1
  ·obtain⟨lp,⟨q1,_⟩,_⟩:=AH.out x hx;exact bH q1
 have cJ:=(hf L1).run _ (wY hT I8 I9 hY NJ nY wJ DK VF ⟨VG,VH⟩ Jt hg.wm VK VL ⟨k5,k6⟩ hE) L1 F (#[.func (.yield l) #[] #[]]++lc) W1 QQ (by
  show aj (some l) L1 F W1 (.yld::inj aL) _;refine⟨.func (.yield l) #[] #[],lc.toList,by simp,⟨l,rfl,rfl⟩,aj.inj.2 (aS.mono yq aL _ kq)⟩)
 refine⟨l,mk.map mark,W1,{ target:=.fn (.func f) lc,args:=#[.func (.yield l) #[] #[]] },W1,f,#[.func (.yield l) #[] #[]]++lc,W1,lV,?_,fun _ _=>trivial,?_,(fun h=>by cases h),?_⟩
 ·simp only[resolve,cF]
  simp[go_sem]
 ·simp[invoke,go_sem,(hf L1).enter]
 refine(fN cJ).mono ?_;rintro en w' ⟨x,rfl,v,h',gs,L',F',⟨rfl,hK⟩,hH,hv,tr,mT⟩;obtain⟨gg,L2⟩:=gs;obtain⟨i1,i2,i3,i4,i5,i6,i7,i8⟩:=hH.hg;have Zr:(jq base gg).state ≠ .busy:=by cases gg<;>(intro h;cases h)
 have rj:=run_endLoop (P:=P) i2.1 Zr;obtain⟨W4,VB⟩:∃ W4,W4=w'.putObj l (.loop { jq base gg with state:=.exhausted }):=⟨_,rfl⟩;rw[<- VB]at rj;have NP:Tr F' w' F' W4:=by rw[VB];exact Tr.Tl i2.1 (fun _ _ _ h=>by cases h) (fun _ _ h=>by cases h) (fun _ _ _ h=>by cases h)
 have Sy:∀ y,y≠l->W4.heap[y]?=w'.heap[y]?:=fun y hy=>by rw[VB];exact World.putObj_heap_other hy
 have h4:=i1.JE NP (fun b hb=>i1.fresh b (Nat.le_trans NP.size hb)) (fun b hb=>⟨Sy b (by rintro rfl;exact i2.2 hb),rfl⟩) (fun id o hi hb=>⟨Sy _ (fun e=>(bF.ry (i1.obj id o hi) hb (by rw[e];exact i2.1)).1 _ rfl),rfl⟩)
 let L3:Loc:=⟨fun i=>if i∈tb then L2.ρ (nD c1 tb i) else if aV c1 tb.length i then cx.pρ i else L2.ρ i,fun i=>if i∈tb then L2.κ (nD c1 tb i) else if aV c1 tb.length i then cx.pκ i else L2.κ i⟩
 have Vw:∀ i,aV c1 tb.length i=false->L3.ρ i=L2.ρ (nD c1 tb i)/\L3.κ i=L2.κ (nD c1 tb i):=by
  intro i hi;by_cases hm:i∈tb
  ·simp[L3,hm]
  ·simp[L3,hm,hi,m6 hm]
 have Vx:∀ i,i∉tb->L3.ρ (nO c1 tb i)=L2.ρ i/\L3.κ (nO c1 tb i)=L2.κ i:=by
  intro i hi;have:aV c1 tb.length (nO c1 tb i)=false:=by
   cases hr:aV c1 tb.length i with
   | false=>rw[oO hr];exact hr
   | true=>
    rw[eM]at hr;obtain⟨k,hk⟩:∃ k,i=c1+k:=⟨i-c1,by omega⟩;obtain⟨y,hy⟩:∃ y,tb[k]?=some y:=⟨_,List.getElem?_eq_getElem (by omega)⟩;rw[hk,Cd hy];exact RG y (List.mem_of_getElem? hy)
  obtain⟨q1,q2⟩:=Vw _ this;rw[ZI i hi]at q1 q2;exact⟨q1,q2⟩
 have Jq:=rA i8;have DM:Good cx r (mk++m) L3 F' ⟨e,df (nO c1 tb) (gg.heap I),gg.st I⟩ { aa with defers:=mk.map mark++aa.defers } W4:=by
  refine⟨h4.mg fun i hi=>Vx i (Jq i hi).2,fun t v ht=>?_,?_,fun x hx=>?_,?_,fun l0 h0=>?_,fun i hi=>?_,hg.wm⟩
  ·obtain⟨x,hx,hr⟩:=i5 t (aE (iy (nD c1 tb)) v) (by
    have ht:get e t=some v:=ht;simp only[sF,bs,ht];rfl)
   refine⟨x,hx,aT.mono NP v x (fun _ _=>⟨rfl,rfl⟩) ((aT.mg (R:=nD c1 tb) (L:=L3) (L':=L2) v x fun i hi=>?_).1 hr)⟩;obtain⟨q1,q2⟩:=Vw i (KT i (ib ht hi));exact⟨q1.symm,q2.symm⟩
  ·show mk.map mark++aa.defers=(mk++m).map mark++cx.base
   rw[hg.wA,List.map_append,List.append_assoc]
  ·obtain⟨q1,q2⟩:=i3 x hx
   exact⟨by rw[Sy x (by rintro rfl;rw[i2.1]at q1;cases q1)];exact q1,q2⟩
  ·rw[List.nodup_append]
   refine⟨MH,hg.wS,fun x hx y hy e=>?_⟩;have h1:=(Wc x hx).1;have h2:=bH (hg.pR y hy).1;omega
  ·obtain⟨lp,⟨q1,q2⟩,q3⟩:=i4 l0 h0
   exact⟨lp,⟨by rw[Sy l0 (by rintro rfl;exact NJ h0)];exact q1,q2⟩,q3⟩
  ·have hm:i∉tb:=fun hm=>by have:=M7 i hm;unfold pinned at hi;omega
   cases hr:aV c1 tb.length i with
   | true=>simp[L3,hm,hr]
   | false=>
    obtain⟨q1,q2⟩:=Vw i hr;rw[m6 hm]at q1 q2;obtain⟨q3,q4⟩:=i6 i hi;have q5:L1.ρ i=L.ρ i/\L1.κ i=L.κ i:=by
     show L.ρ (nO c1 tb i)=L.ρ i/\L.κ (nO c1 tb i)=L.κ i;rw[oO hr];exact⟨rfl,rfl⟩
    obtain⟨q6,q7⟩:=hg.mT i hi;exact⟨q1.trans (q3.trans (q5.1.trans q6)),q2.trans (q4.trans (q5.2.trans q7))⟩
 have SO:Tr F w F' W4:=Tr.trans yq (Tr.trans tr NP);refine⟨_,W4,rj,?_⟩
 cases gg with
 | go x=>
  exact .inl ⟨.normal,_,mk++m,L3,F',rfl,hK,DM,SO,rfl⟩
 | done ex hd s'=>
  cases ex with
  | normal=>exact wpIn_skip (.inl ⟨.normal,_,mk++m,L3,F',rfl,hK,DM,SO,rfl⟩)
  | ret=>exact wpIn_ret (.inl ⟨.ret,_,mk++m,L3,F',rfl,hK,DM,SO,rfl⟩)
  | exit i=>exact wpIn_exit (.inl ⟨.exit i,_,mk++m,L3,F',rfl,hK,DM,SO,rfl⟩)
end
end Go.PX
namespace Go.PX
open Go.RowKit
def iterate{γ:Type}(Y:Hd γ):List (List V×aq)->γ->(γ->Prop)->Prop
 | [],g,Q=>Q g
 | (args,h)::r,g,Q=>Y.y args h g fun v h' g'=>h'=h/\((v = .d (.bool true)/\iterate Y r g' Q)\/(v = .d (.bool false)/\Q g'))
def Yields(P:Program)(f:FuncId)(aL:List D)(l:List (List V×aq)):Prop:=
 ∀ {γ:Type} (Y:Hd γ) (g:γ) (Q:γ->Prop),iterate Y l g Q->FM P Y f (.yld::inj aL) [] g fun v h' g'=>h' = []/\Q g'
theorem vo{γ:Type}{Y:Hd γ}:∀ (l:List (List V×aq)),iterate Y.np l=iterate Y l
 | []=>rfl
 | x::r=>by
  funext g Q
  show(Y.y x.1 x.2 g fun v h' g'=>h'=x.2/\((v = .d (.bool true)/\iterate Y.np r g' Q)\/(v = .d (.bool false)/\Q g')))=_;rw[vo r];rfl
theorem iterate.np{γ:Type}{Y:Hd γ}{l:List (List V×aq)}{g:γ}{Q:γ->Prop}(h:iterate Y l g Q):iterate Y.np l g Q:=by rw[vo];exact h
section
variable {P : Program} {T : dV} {ft : FT} {α σ : Type} {Y : Hd σ}
def HL(tb:List Nat)(h:aq):aq:=match tb with
 | []=>[]
 | i::r=>match get h i with
  | some o=>(i,o)::HL r h
  | none=>HL r h
theorem rD{h:aq}{k:Nat}{v:Obj}:∀ {tb:List Nat},get (HL tb h) k=some v->get h k=some v
 | [],hk=>by cases hk
 | i::r,hk=>by
  rw[HL]at hk;split at hk
  ·rename_i o ho
   rw[dQ]at hk;split at hk
   ·rename_i e
    subst e;rw[ho];exact hk
   ·exact rD hk
  ·exact rD hk
def Ff(tb:List Nat)(z:aq):aq->aq
 | []=>z
 | (i,o)::r=>match tb.any fun k=>Nat.beq k i with
  | true=>Ff tb z r
  | false=>(i,o)::Ff tb z r
theorem Bl{tb:List Nat}{z:aq}{k:Nat}:∀ {h:aq},get (Ff tb z h) k=if (tb.any fun i=>Nat.beq i k)=true then get z k else (match get h k with
 | some v=>some v
 | none=>get z k)
 | []=>by simp[Ff,get]
 | (i,o)::r=>by
  have ih:=Bl (tb:=tb) (z:=z) (k:=k) (h:=r);rw[Ff];split
  ·rename_i hi
   rw[ih,dQ];by_cases hk:(tb.any fun j=>Nat.beq j k)=true
   ·rw[if_pos hk,if_pos hk]
   ·rw[if_neg hk,if_neg hk,if_neg (fun e=>hk (by rw[e];exact hi))]
  ·rename_i hi
   rw[dQ,dQ];by_cases e:k=i
   ·subst e
    rw[if_pos rfl,if_pos rfl,if_neg (by rw[hi];simp)]
   ·rw[if_neg e,if_neg e,ih]
def HJ(tb:List Nat)(h:aq):aq:=Ff tb (HL tb h) h
theorem HK{h:aq}{k:Nat}{v:Obj}{tb:List Nat}(hk:get (HJ tb h) k=some v):get h k=some v:=by
 unfold HJ at hk;rw[Bl]at hk;split at hk
 ·exact rD hk
 ·split at hk
  ·rename_i he;rw[he];exact hk
  ·exact rD hk
theorem Wk.ord{e:Env}{h:aq}{s:σ}(tb:List Nat):Wk (⟨e,h,s⟩:St σ) ⟨e,HJ tb h,s⟩:=
 fun cx r m L F a w hg=>⟨L,F,hg.sub (fun _ _ hv=>hv) (fun _ _ hv=>HK hv),Tr.refl F w⟩
theorem qL(hT:bl P T){g:Operand}{ps:Array Tmp}{a b:Code}(I8:cy P T ft a)(I9:cy P T ft b){f:FuncId}{aL:List D}{e:Env}{h:aq}{s:σ}{K:dX->St σ->Prop}(Mw:aH e g=some (.d (.clo f aL)))
  (c1 c2:Nat) (tb:List Nat) {β:Type} {items:List β} {arg:β->List V} {hp:β->aq} (hf:Yields P f aL (items.map fun b=>(arg b,hp b)))
  (I:α->aq×σ) (J:List β->α->Prop) (x0:α) (mE:ox c1 c2 tb e h=true) (hI:I x0=(df (nD c1 tb) h,s)) (Cq:Fb c2 tb (I x0).1=true) (QR:J items x0)
  (round:∀ it rest x,J (it::rest) x -> ∀ (Q:V->aq->RS α σ->Prop),(∀ x',J rest x'->Q (.d (.bool true)) (hp it) (.go x'))->(∀ ex hd s',K ex ⟨e,df (nO c1 tb) hd,s'⟩->Q (.d (.bool false)) (hp it) (.done ex hd s')) ->
   (oy P T ft Y I ps a b (sF (nD c1 tb) e) c2 tb).y (arg it) (hp it) (.go x) Q)
  (fin:∀ x,J [] x->K .normal ⟨e,df (nO c1 tb) (I x).1,(I x).2⟩):jw P ft Y g ps a b ⟨e,h,s⟩ K:=by
 refine B1 hT I8 I9 Mw c1 c2 tb I x0 mE hI Cq fun L=>hf (A7 (oy P T ft Y I ps a b (sF (nD c1 tb) e) c2 tb)) (RS.go x0,L) (fun g=>match g.1 with
   | .go x=>K .normal ⟨e,df (nO c1 tb) (I x).1,(I x).2⟩
   | .done ex hd s'=>K ex ⟨e,df (nO c1 tb) hd,s'⟩) ?_
 have key:∀ (l:List β) (x:α) (L:Loc),J l x->iterate (A7 (oy P T ft Y I ps a b (sF (nD c1 tb) e) c2 tb)) (l.map fun b=>(arg b,hp b))  (RS.go x,L) (fun g=>match g.1 with
   | .go x=>K .normal ⟨e,df (nO c1 tb) (I x).1,(I x).2⟩
   | .done ex hd s'=>K ex ⟨e,df (nO c1 tb) hd,s'⟩):=by
  intro l
  induction l with
  | nil=>exact fun x L hj=>fin x hj
  | cons it rest ih=>
   intro x L hj
   exact round it rest x hj (fun v h' g'=>∀ L',h'=hp it/\((v = .d (.bool true)/\iterate (A7 (oy P T ft Y I ps a b (sF (nD c1 tb) e) c2 tb)) (rest.map fun b=>(arg b,hp b)) (g',L') (fun g=>match g.1 with
   | .go x=>K .normal ⟨e,df (nO c1 tb) (I x).1,(I x).2⟩
   | .done ex hd s'=>K ex ⟨e,df (nO c1 tb) hd,s'⟩))\/(v = .d (.bool false)/\(match g' with
   | .go x=>K .normal ⟨e,df (nO c1 tb) (I x).1,(I x).2⟩
   | .done ex hd s'=>K ex ⟨e,df (nO c1 tb) hd,s'⟩)))) (fun x' AN L'=>⟨rfl,.inl ⟨rfl,ih x' L' AN⟩⟩) (fun ex hd s' hk L'=>⟨rfl,.inr ⟨rfl,hk⟩⟩)
 exact key items x0 L QR
theorem ji(hT:bl P T){g:Operand}{ps:Array Tmp}{a b:Code}(I8:cy P T ft a)(I9:cy P T ft b){f:FuncId}{aL:List D}{e:Env}{h:aq}{s:σ}{K:dX->St σ->Prop}(Mw:aH e g=some (.d (.clo f aL)))
  (c1 c2:Nat) (tb:List Nat) {β:Type} {items:List β} {arg:β->List V} {hp:β->aq} (hf:Yields P f aL (items.map fun b=>(arg b,hp b)))
  (I:α->aq×σ) (J:List β->α->Prop) (x0:α) (mE:ox c1 c2 tb e (HJ tb h)=true) (hI:I x0=(df (nD c1 tb) (HJ tb h),s)) (Cq:Fb c2 tb (I x0).1=true) (QR:J items x0)
  (round:∀ it rest x,J (it::rest) x -> ∀ (Q:V->aq->RS α σ->Prop),(∀ x',J rest x'->Q (.d (.bool true)) (hp it) (.go x'))->(∀ ex hd s',K ex ⟨e,df (nO c1 tb) hd,s'⟩->Q (.d (.bool false)) (hp it) (.done ex hd s')) ->
   (oy P T ft Y I ps a b (sF (nD c1 tb) e) c2 tb).y (arg it) (hp it) (.go x) Q)
  (fin:∀ x,J [] x->K .normal ⟨e,df (nO c1 tb) (I x).1,(I x).2⟩):jw P ft Y g ps a b ⟨e,h,s⟩ K:=jw.wk (Wk.ord tb) (qL hT I8 I9 Mw c1 c2 tb hf I J x0 mE hI Cq QR round fin)
theorem uF{e:Env}{h:aq}{s:σ}{d:Option Nat}{ds:List D}{r:List (List V×aq)}{Q:σ->Prop}(fD:iterate Y ((inj ds,[])::r) s Q){args:List V}(hv:args=inj ds)(hd:Nat.ble (d.getD 0) 10000=true){K:St σ->Prop}
  (kt:∀ s',iterate Y r s' Q->bg (aO d (.d (.bool true))) e h fun e h=>K ⟨e,h,s'⟩) (kf:∀ s',Q s'->bg (aO d (.d (.bool false))) e h fun e h=>K ⟨e,h,s'⟩):Lq P Y ⟨e,h,s⟩ d args K:=by
 have hB:∀ b:Bool,fA [] d (.d (.bool b)) []=true:=by
  intro b;simp only[fA,Bool.and_eq_true];refine⟨⟨⟨⟨⟨⟨⟨⟨⟨rfl,rfl⟩,rfl⟩,rfl⟩,rfl⟩,rfl⟩,rfl⟩,hd⟩,rfl⟩,?_⟩;cases d<;>rfl
 have MR:∀ (R:Nat->Nat) (l:List D),kU R (inj l)=inj l:=by
  intro R l
  induction l with
  | nil=>rfl
  | cons c r ih=>show aE (iy R) (.d c)::cb (iy R) (inj r) = .d c::inj r;rw[show cb (iy R) (inj r)=inj r from ih];rfl
 refine Kp [] fD (by rw[hv];exact MR _ _) rfl rfl rfl ?_;rintro v h1 s' ⟨rfl,hv⟩;rcases hv with⟨rfl,hi⟩|⟨rfl,hq⟩
 ·refine⟨hB true,?_⟩
  have:=kt s' hi;rw[cu s']at this;have hs:(aF (⟨e,h,s'⟩:St σ) (aO d (.d (.bool true)))).s=s':=cV _ _;show K (aF ⟨e,h,s'⟩ (aO d (.d (.bool true))));generalize aF (⟨e,h,s'⟩:St σ) (aO d (.d (.bool true)))=st at this hs;obtain⟨e1,h1,s1⟩:=st;simp only at hs;subst hs;exact this
 ·refine⟨hB false,?_⟩
  have:=kf s' hq;rw[cu s']at this;have hs:(aF (⟨e,h,s'⟩:St σ) (aO d (.d (.bool false)))).s=s':=cV _ _;show K (aF ⟨e,h,s'⟩ (aO d (.d (.bool false))));generalize aF (⟨e,h,s'⟩:St σ) (aO d (.d (.bool false)))=st at this hs;obtain⟨e1,h1,s1⟩:=st;simp only at hs;subst hs;exact this
end
end Go.PX
namespace Go.PX
theorem au{α:Type}{l:List α}{f:α->List D}{i:Nat}{x:α}{K:List D->Prop}(hx:l[i]?=some x)(k:K (f x)):xp (l.map f) (i:Int) K:=
 bY (f x) (by simp[hx]) k
theorem aG{g:Nat->Option DO}{v:V}{r:List V}{d:D}{l:List D}(h1:cA g v=some d)(h2:bZ g r=some l):bZ g (v::r)=some (d::l):=by
 rw[bZ,h1,h2]
theorem cB{h:aq}{k id sz n:Nat}{es:List (List D)}(hg:get h id=some (.arr sz (.dd es)))(hn:n=es.length):cA (dJ h (k+1)) (.sl id sz 0 n)=some (.vs es):=by
 have h1:Nat.beq sz sz=true:=Nat.beq_refl sz;have h2:Nat.ble (0+es.length) es.length=true:=Nat.ble_eq_true_of_le (by omega);subst hn;simp only[cA,dJ,hg,h1,h2,List.drop_zero,List.take_length]
section
variable {P : Program} {T : dV} {σ : Type} {Y : Hd σ}
theorem yD{ft:FT}{c:Code}{α:Type}(I:α->St σ)(Pr:α->Prop)(μ:α->Nat)(x0:α){st:St σ}{K:dX->St σ->Prop}(h0:Wk st (I x0))(p0:Pr x0)
  (round:∀ x,Pr x->wG P Y c (I x) fun e dm=>match e with
   | .normal=>∃ y,μ y<μ x/\Pr y/\Wk dm (I y)
   | e=>K e dm):uy P ft Y c st K:=by
 refine⟨wG.wk h0 ?_⟩;intro cx hY r m0 L0 F0 a w hg hc;have hc:codeOk a.tmps.size c=true:=hc
 let J:Act->World->α->Prop:=fun a' w' x=>Pr x /\ ∃ m L F,Good cx r m L F (I x) a' w'/\Tr F0 w F w'/\a'.tmps.size=a.tmps.size
 let M:Act->World->Nat:=fun a' w'=>yg fun n=>∃ x,J a' w' x/\μ x=n
 refine wpIn_loop (fun a' w'=>∃ x,J a' w' x) M ⟨x0,p0,m0,L0,F0,hg,Tr.refl F0 w,rfl⟩ fun a' w' hJ=>?_;obtain⟨x,⟨hp,m,L,F,eL,tr,hs⟩,hx⟩:=yh (p:=fun n=>∃ x,J a' w' x/\μ x=n) (by obtain⟨x,hx⟩:=hJ;exact⟨μ x,x,hx,rfl⟩);refine wpIn_mono (round x hp cx hY r m L F a' w' eL (by rw[hs];exact hc)) fun ex Ku Em hq=>?_;rcases hq with⟨e',zK,m1,L1,F1,rfl,h2,h3,h4,h5⟩|K0
 case inr=>
  have MM:=K0;obtain⟨v,pe,ph,ps,m',L',F',rfl,_⟩:=K0;exact .inr (MM.trans tr hs)
 cases e' with
 | normal=>
  obtain⟨y,hy,Wp,Hn⟩:=h2;obtain⟨L2,F2,mf,FV⟩:=Hn cx r m1 L1 F1 Ku Em h3;have QS:J Ku Em y:=⟨Wp,m1,L2,F2,mf,Tr.trans tr (Tr.trans h4 FV),h5.trans hs⟩;refine⟨⟨y,QS⟩,?_⟩;have:M Ku Em<=μ y:=BE ⟨y,QS,rfl⟩;have hx:μ x=M a' w':=hx;omega
 | exit i=>exact .inl ⟨.exit i,zK,m1,L1,F1,rfl,h2,h3,Tr.trans tr h4,h5.trans hs⟩
 | ret=>exact .inl ⟨.ret,zK,m1,L1,F1,rfl,h2,h3,Tr.trans tr h4,h5.trans hs⟩
theorem wG.mono{c:Code}{st:St σ}{K1 K2:dX->St σ->Prop}(hw:wG P Y c st K1)(h:∀ e st,K1 e st->K2 e st):wG P Y c st K2:=by
 intro cx hY r m L F a w hg hc;refine wpIn_mono (hw cx hY r m L F a w hg hc) fun ex a' w' hq=>?_;rcases hq with⟨e',dm,m',L',F',h1,h2,h3⟩|hp
 ·exact .inl ⟨e',dm,m',L',F',h1,h _ _ h2,h3⟩
 ·exact .inr hp
theorem yC(hT:bl P T){ft:FT}{c:Code}(hD:cy P T ft c){α β:Type}(l:List α)(I:Nat->β->St σ)(J:List α->β->Prop)(x0:β){st:St σ}{K:dX->St σ->Prop}(h0:Wk st (I 0 x0))(j0:J l x0)
  (round:∀ (i:Nat) (x:α) (r:List α) (acc:β),l[i]?=some x->i<l.length->i+1+r.length=l.length->J (x::r) acc->Di P T ft Y c (I i acc) fun e dm=>match e with
   | .normal=>∃ lu,J r lu/\Wk dm (I (i+1) lu)
   | e=>K e dm)
  (fin:∀ acc,J [] acc->Di P T ft Y c (I l.length acc) fun e dm=>match e with
   | .normal=>False
   | e=>K e dm):uy P ft Y c st K:=by
 refine yD (α:=Nat×β) (fun p=>I p.1 p.2) (fun p=>p.1<=l.length/\J (l.drop p.1) p.2) (fun p=>l.length+1-p.1) (0,x0) h0 ⟨Nat.zero_le _,by simpa using j0⟩ ?_;rintro ⟨i,acc⟩ ⟨hi,hj⟩;simp only at hi hj ⊢;by_cases dI:i<l.length
 ·have hd:l.drop i=l[i]::l.drop (i+1):=List.drop_eq_getElem_cons dI
  rw[hd]at hj;refine wG.mono (cL hT c hD _ _ (round i l[i] (l.drop (i+1)) acc (List.getElem?_eq_getElem dI) dI (by simp;omega) hj)) fun e dm hk=>?_
  cases e with
  | normal=>
   obtain⟨lu,h1,h2⟩:=hk;exact⟨(i+1,lu),by simp only;omega,⟨dI,h1⟩,h2⟩
  | exit i=>exact hk
  | ret=>exact hk
 ·have he:i=l.length:=by omega
  subst he;rw[List.drop_length]at hj;refine wG.mono (cL hT c hD _ _ (fin acc hj)) fun e dm hk=>?_
  cases e with
  | normal=>exact hk.elim
  | exit i=>exact hk
  | ret=>exact hk
theorem ba(hT:bl P T){ft:FT}{c:Code}(hD:cy P T ft c){α β:Type}(l:List α)(I:Nat->β->St σ)(J:Nat->List α->β->Prop)(x0:β){st:St σ}{K:dX->St σ->Prop}(h0:Wk st (I 0 x0))(j0:J 0 l x0)
  (round:∀ (i:Nat) (x:α) (r:List α) (acc:β),l[i]?=some x->i<l.length->i+1+r.length=l.length->J i (x::r) acc->Di P T ft Y c (I i acc) fun e dm=>match e with
   | .normal=>∃ lu,J (i+1) r lu/\Wk dm (I (i+1) lu)
   | e=>K e dm)
  (fin:∀ acc,J l.length [] acc->Di P T ft Y c (I l.length acc) fun e dm=>match e with
   | .normal=>False
   | e=>K e dm):uy P ft Y c st K:=by
 refine yD (α:=Nat×β) (fun p=>I p.1 p.2) (fun p=>p.1<=l.length/\J p.1 (l.drop p.1) p.2) (fun p=>l.length+1-p.1) (0,x0) h0 ⟨Nat.zero_le _,by simpa using j0⟩ ?_;rintro ⟨i,acc⟩ ⟨hi,hj⟩;simp only at hi hj ⊢;by_cases dI:i<l.length
 ·have hd:l.drop i=l[i]::l.drop (i+1):=List.drop_eq_getElem_cons dI
  rw[hd]at hj;refine wG.mono (cL hT c hD _ _ (round i l[i] (l.drop (i+1)) acc (List.getElem?_eq_getElem dI) dI (by simp;omega) hj)) fun e dm hk=>?_
  cases e with
  | normal=>
   obtain⟨lu,h1,h2⟩:=hk;exact⟨(i+1,lu),by simp only;omega,⟨dI,h1⟩,h2⟩
  | exit i=>exact hk
  | ret=>exact hk
 ·have he:i=l.length:=by omega
  subst he;rw[List.drop_length]at hj;refine wG.mono (cL hT c hD _ _ (fin acc hj)) fun e dm hk=>?_
  cases e with
  | normal=>exact hk.elim
  | exit i=>exact hk
  | ret=>exact hk
end
end Go.PX
namespace Go.PX
open Go.RowKit
section
variable {σ : Type}
theorem Wk.Eb{e:Env}{h:aq}{s:σ}(id:Nat){o:Obj}(o':Obj)(hg:get h id=some o)(hr:∀ (yv:Option Nat) (L:Loc) (F:Nat->Nat) (w:World),bF yv L F w id o->bF yv L F w id o')(hb:∀ L,aJ L id o'->aJ L id o) :
  Wk (⟨e,h,s⟩:St σ) ⟨e,put h id o',s⟩:=by
 intro cx r m L F a w hh;have key:∀ i q,get (put h id o') i=some q->(i=id/\q=o')\/get h i=some q:=by
  intro i q hi;rw[db]at hi;split at hi
  ·rename_i e1;cases hi;exact .inl ⟨e1,rfl⟩
  ·exact .inr hi
 refine⟨L,F,⟨⟨hh.heap.hg,hh.heap.j6,hh.heap.fresh,fun i q hi=>?_,fun i q hi j8=>?_,fun i j q p hi hj md jv e=>?_⟩,hh.env,hh.wA,hh.pR,hh.wS,hh.lk,hh.mT,hh.wm⟩,Tr.refl F w⟩
 ·rcases key i q hi with⟨rfl,rfl⟩|hi
  ·exact hr _ _ _ _ (hh.heap.obj i o hg)
  ·exact hh.heap.obj i q hi
 ·rcases key i q hi with⟨rfl,rfl⟩|hi
  ·exact hh.heap.own i o hg (hb L j8)
  ·exact hh.heap.own i q hi j8
 ·rcases key i q hi with⟨e1,e2⟩|G3<;>rcases key j p hj with⟨e3,e4⟩|EK
  ·rw[e1,e3]
  ·subst e1;subst e2
   exact hh.heap.inj _ _ _ _ hg EK (hb L md) jv e
  ·subst e3;subst e4
   exact hh.heap.inj _ _ _ _ G3 hg md (hb L jv) e
  ·exact hh.heap.inj _ _ _ _ G3 EK md jv e
theorem Wk.shrink{e:Env}{h:aq}{s:σ}(id n:Nat){sz:Nat}{es:List (List D)}(hg:get h id=some (.arr sz (.dd es))):Wk (⟨e,h,s⟩:St σ) ⟨e,put h id (.arr sz (.dd (es.take n))),s⟩:=by
 refine Wk.Eb id _ hg (fun yv L F w h=>?_) fun L hb=>hb;obtain⟨h1,h2,h3⟩:=h;have hlen:cK sz (cU (es.take n)):=by
  intro x hx;rw[cq,List.mem_map]at hx;obtain⟨y,hy,rfl⟩:=hx;exact h2 _ (by rw[show(a7.dd es).bo=cU es from rfl,cq];exact List.mem_map_of_mem (List.mem_of_mem_take hy))
 refine⟨h1,hlen,?_⟩;rcases h3 with⟨h3,h4⟩|⟨c,T,hc,k1,k2,k3⟩
 ·left
  have:es = []:=by
   have:cU es = []:=h3
   cases es with
   | nil=>rfl
   | cons a l=>cases this
  subst this;exact⟨by simp[a7.bo,cU],h4⟩
 ·right
  have e1:(a7.dd es).bo=cU es:=rfl;have e2:(a7.dd (es.take n)).bo=(cU es).take n:=by show cU (es.take n)=_;rw[cq,cq,List.map_take]
  have e3:((cU es).take n).length<=(cU es).length:=by simp;omega
  rw[e1]at k2 k3;refine⟨c,T,hc,k1,?_,?_⟩
  ·rw[e2];exact Nat.le_trans (Nat.mul_le_mul_right _ e3) k2
  ·rw[e2]
   have:=aj.take (((cU es).take n).length*sz) k3;rw[List.take_take]at this;have Jo:min (((cU es).take n).length*sz) ((cU es).length*sz)=((cU es).take n).length*sz:=Nat.min_eq_left (Nat.mul_le_mul_right _ e3);rw[Jo]at this;have hl:cK sz (cU es):=h2;have hf:(cU es).flatten.take (((cU es).take n).length*sz)=((cU es).take n).flatten:=by
    have:=fW (sz:=sz) n hl;rw[this];simp only[List.length_take];by_cases hn:n<=(cU es).length
    ·rw[Nat.min_eq_left hn]
    ·rw[Nat.min_eq_right (by omega),List.take_of_length_le (by rw[jk hl];exact Nat.le_refl _),List.take_of_length_le (by rw[jk hl];exact Nat.mul_le_mul_right _ (by omega))]
   rw[hf]at this;exact this
theorem Wk.Dx{e:Env}{h:aq}{s:σ}(b k sz:Nat)(hk:Nat.blt k 1000000=true)(hs:Nat.blt 0 sz=true)(hb:get h b=some (.box (.dd [.nils])))(j8:Nat.beq b k=false) :
  Wk (⟨e,h,s⟩:St σ) ⟨ct (aE (aZ k)) e,put (((k,.arr sz (.dd []))::ct (Obj.aE (aZ k)) (cut h k))) b (.box (.vv [.sl k sz 0 0])),s⟩:=by
 have hk:=Nat.le_of_ble_eq_true hk;have hs:=Nat.le_of_ble_eq_true hs;have ef:b≠k:=by rintro rfl;simp at j8
 have h1:Wk (⟨e,h,s⟩:St σ) ⟨ct (aE (aZ k)) e,((k,.arr sz (.dd []))::ct (Obj.aE (aZ k)) (cut h k)),s⟩:=by
  intro cx r m L F a w hg;exact⟨_,F,hg.kB k sz (by unfold pinned;omega) hs (.dd []) rfl,Tr.refl F w⟩
 refine h1.trans (Wk.Eb b (o:=.box (.dd [.nils])) _ (by rw[dQ,if_neg ef,bs,dP,if_neg ef,hb];rfl) (fun yv L F w h=>?_) fun L hb=>hb);obtain⟨c,T,hc,x,l',hl,hx,hr⟩:=h;have hx:x = .slice none 0 0:=hx;subst hx;exact⟨c,T,hc,_,l',hl,⟨none,0,rfl,Nat.le_refl _,hs,.inl ⟨rfl,rfl⟩⟩,hr⟩
end
theorem aA{k:IntKind}{n:Int}{K:V->Prop}(m:Int)(h:n=m)(hw:k.wrap m=m)(hK:K (.d (.int k m))):arith k n K:=by subst h;exact nK hw hK
theorem sQ{g:Nat->Option DO}:∀ (l:List D),bZ g (inj l)=some l
 | []=>rfl
 | d::r=>by
  show bZ g (.d d::inj r)=_;rw[bZ,sQ r];rfl
section
variable {P : Program} {T : dV} {σ : Type} {Y : Hd σ}
theorem qH{f:FuncId}{args0:List V}{h0:aq}{s:σ}{Q:V->aq->σ->Prop}(hf:FM P Y f args0 h0 s Q)(tb:List Nat){e:Env}{h:aq}{d:Option Nat}{args:List V}{K:St σ->Prop}
  (bR:kU (ck tb (d.getD 0)) args0=args) (fe:gH (ck tb (d.getD 0)) h 1000000 tb h0) (tO:fS tb=true) (zX:Nat.ble tb.length 1000=true)
  (hq:∀ v h1 s',Q v h1 s'->fA tb d v h1=true/\bg (cO tb d v h1) e h fun e h=>K ⟨e,h,s'⟩):dK P Y ⟨e,h,s⟩ d f args K:=by
 refine Gk hf tb bR fe tO zX fun v h1 s' hv=>?_;obtain⟨h2,h3⟩:=hq v h1 s' hv;refine⟨h2,?_⟩;rw[cu s']at h3;have hs:(aF (⟨e,h,s'⟩:St σ) (cO tb d v h1)).s=s':=cV _ _;generalize aF (⟨e,h,s'⟩:St σ) (cO tb d v h1)=st at h3 hs;obtain⟨e1,h1,s1⟩:=st;simp only at hs;subst hs;exact h3
end
mutual
def l8:V->V->Prop
 | .d a,.d b=>a=b
 | .agg a,.agg b=>sJ a b
 | .tup a,.tup b=>sJ a b
 | .clo f a,.clo g b=>f=g/\sJ a b
 | .ptr i o,.ptr j p=>Nat.beq i j=true/\o=p
 | .ep i s k o,.ep j t l p=>Nat.beq i j=true/\s=t/\k=l/\o=p
 | .sl i s o n,.sl j t p m=>Nat.beq i j=true/\s=t/\o=p/\n=m
 | .mp i,.mp j=>Nat.beq i j=true
 | .it i,.it j=>Nat.beq i j=true
 | .yld,.yld=>True
 | .unk,.unk=>True
 | _,_=>False
def sJ:List V->List V->Prop
 | [],[]=>True
 | a::r,b::s=>l8 a b/\sJ r s
 | _,_=>False
end
mutual
theorem H6:∀ (a b:V),l8 a b->a=b
 | .d a,b,h=>by cases b<;>simp only[l8]at h;rw[h]
 | .agg a,b,h=>by cases b<;>simp only[l8]at h;rw[l9 _ _ h]
 | .tup a,b,h=>by cases b<;>simp only[l8]at h;rw[l9 _ _ h]
 | .clo f a,b,h=>by cases b<;>simp only[l8]at h;rw[h.1,l9 _ _ h.2]
 | .ptr i o,b,h=>by cases b<;>simp only[l8]at h;rw[Nat.eq_of_beq_eq_true h.1,h.2]
 | .ep i s k o,b,h=>by cases b<;>simp only[l8]at h;rw[Nat.eq_of_beq_eq_true h.1,h.2.1,h.2.2.1,h.2.2.2]
 | .sl i s o n,b,h=>by cases b<;>simp only[l8]at h;rw[Nat.eq_of_beq_eq_true h.1,h.2.1,h.2.2.1,h.2.2.2]
 | .mp i,b,h=>by cases b<;>simp only[l8]at h;rw[Nat.eq_of_beq_eq_true h]
 | .it i,b,h=>by cases b<;>simp only[l8]at h;rw[Nat.eq_of_beq_eq_true h]
 | .yld,b,h=>by cases b<;>simp only[l8]at h;rfl
 | .unk,b,h=>by cases b<;>simp only[l8]at h;rfl
theorem l9:∀ (a b:List V),sJ a b->a=b
 | [],[],_=>rfl
 | a::r,b::s,h=>by rw[H6 a b h.1,l9 r s h.2]
 | [],_::_,h=>h.elim
 | _::_,[],h=>h.elim
end
theorem qP{h:aq}{i:Nat}{l l':List V}(h1:get h i=some (.box (.vv l)))(h2:sJ l l'):get h i=some (.box (.vv l')):=by rw[h1,l9 l l' h2]
theorem gM{σ:Type}{r:List V}{h:aq}{s:σ}{Q:V->aq->σ->Prop}(hr:pj (.d (.vs [])::r) h s Q):pj (.d .nils::r) h s Q:=by
 obtain⟨hr⟩:=hr;refine⟨fun cx L F a9 w hh hv=>hr cx L F a9 w hh ?_⟩;obtain⟨x,l',rfl,hx,hl⟩:=hv;have hx:x = .slice none 0 0:=hx;subst hx;exact⟨_,l',rfl,⟨none,0,0,rfl,rfl,Nat.le_refl _,fun h=>absurd rfl h⟩,hl⟩
theorem dG{α:Type}{n:Nat}{f:α->List D}(hf:∀ x,Nat.beq (f x).length n=true/\gD (f x)=true):∀ (l:List α),fE n (l.map f)=true
 | []=>rfl
 | x::r=>by
  simp only[List.map_cons,fE,(hf x).1,(hf x).2];exact dG hf r
section
variable {P : Program} {T : dV} {σ : Type} {Y : Hd σ}
theorem dK.wkK{st:St σ}{d:Option Nat}{f:FuncId}{args:List V}{K:St σ->Prop}(h:dK P Y st d f args fun zK=>∃ sL,Wk zK sL/\K sL):dK P Y st d f args K:=by
 obtain⟨h1,h2⟩:=h;refine⟨h1,fun cx hY r m L F a w a9 hg hd hr=>(h2 cx hY r m L F a w a9 hg hd hr).mono ?_⟩;rintro e w' (⟨x,rfl,dm,L',F',⟨sL,hw,hk⟩,eL,tr⟩|hp);case inr=>exact .inr hp
 obtain⟨L2,F2,mf,FV⟩:=hw cx r m L' F' _ w' eL;exact .inl ⟨x,rfl,sL,L2,F2,hk,mf,Tr.trans tr FV⟩
theorem Dp{f:FuncId}{args0:List V}{h0:aq}{s:σ}{Q:V->aq->σ->Prop}(hf:FM P Y f args0 h0 s Q)(tb:List Nat){e:Env}{h:aq}{d:Option Nat}{args:List V}{K:St σ->Prop}
  (bR:kU (ck tb (d.getD 0)) args0=args) (fe:gH (ck tb (d.getD 0)) h 1000000 tb h0) (tO:fS tb=true) (zX:Nat.ble tb.length 1000=true)
  (hq:∀ v h1 s',Q v h1 s'->fA tb d v h1=true/\bg (cO tb d v h1) e h fun e h=>∃ sL,Wk ⟨e,h,s'⟩ sL/\K sL):dK P Y ⟨e,h,s⟩ d f args K:=
 dK.wkK (qH hf tb bR fe tO zX hq)
end
theorem DG{X:Option Obj}{g:Nat->Option DO}{id sz n:Nat}{d:D}(h1:X=some (jN g (.box (.vv [.sl id sz 0 n]))))(hv:cA g (.sl id sz 0 n)=some d):X=some (.box (.dd [d])):=by
 rw[h1];simp[jN,fG,dE,hv,sa]
theorem Good.OY{σ:Type}{e:Env}{h:aq}{s:σ}(n:Nat)(ids:List Nat){cx:Cx σ}{r:Option Nat}{m:List Nat}{L:Loc}{F:Nat->Nat}{a:Act}{w:World}(hg:Good cx r m L F ⟨e,h,s⟩ a w) :
  ∃ F1,Good cx r m L F1 ⟨ct (dE (dJ (aQ ids h) n)) e,ct (jN (dJ (aQ ids h) n)) (tJ h ids),s⟩ a w/\Tr F w F1 w /\ ∀ (vs:List V) (l:List Value),aj cx.yv L F w vs l->aj cx.yv L F1 w (fG (dJ (aQ ids h) n) vs) l:=by
 have n3:cN (aQ ids h) h:=g6 ids h;have eg:bp cx L F (aQ ids h) s w:=(hg.sub (e:=e) (h:=aQ ids h) (fun _ _ h=>h) n3).heap;have tr:=fY eg;have wH:∀ b,cx.C s b->eC L F (aQ ids h) w b=F b:=fun b hb=>nT eg hb;have rh:∀ id o,get h id=some o->id∉ids->aJ L id o->eC L F (aQ ids h) w (L.ρ id)=F (L.ρ id):=by
  intro id o hi hn hb;refine fX ?_;rintro ⟨j,p,hj,jv,px⟩;have:=hg.heap.inj j id p o (n3 j p hj) hi jv hb px;subst this;exact hn (jn ids h j p hj)
 have BV:=eY eg;have qo:=oi eg n;generalize eC L F (aQ ids h) w=F1 at tr wH rh BV qo;generalize dJ (aQ ids h) n=g at qo;have lC:∀ i o',get (ct (jN g) (tJ h ids)) i=some o'->i∉ids /\ ∃ o0,get h i=some o0/\o'=jN g o0:=by
  intro i o' hi;rw[bs,nV]at hi;split at hi
  ·cases hi
  ·rename_i hn
   cases h0:get h i with
   | none=>simp[h0]at hi
   | some o0=>simp[h0]at hi;exact⟨hn,o0,rfl,hi.symm⟩
 refine⟨F1,⟨⟨cx.eJ hg.heap.hg tr BV fun b hb=>⟨rfl,wH b hb⟩,hg.heap.j6,BV,?_,?_,?_⟩,?_,hg.wA,hg.pR,hg.wS,hg.lk,hg.mT,hg.wm⟩,tr,fun vs l hv=>aj.dE tr qo vs l hv⟩
 ·intro i o' hi
  obtain⟨_,o0,h0,rfl⟩:=lC i o' hi;exact bF.dE tr qo i o0 (hg.heap.obj i o0 h0)
 ·intro i o' hi hb
  obtain⟨hn,o0,h0,rfl⟩:=lC i o' hi;have hb:=(gL i o0).1 hb;rw[rh i o0 h0 hn hb];exact hg.heap.own i o0 h0 hb
 ·intro i j o' p hi hj md jv he
  obtain⟨_,o0,h0,rfl⟩:=lC i o' hi;obtain⟨_,p0,wN,rfl⟩:=lC j p hj;exact hg.heap.inj i j o0 p0 h0 wN ((gL i o0).1 md) ((gL j p0).1 jv) he
 ·intro t v ht
  simp only[bs]at ht
  cases h0:get e t with
  | none=>simp[h0]at ht
  | some v0=>
   simp[h0]at ht;subst ht;obtain⟨x,hx,hr⟩:=hg.env t v0 h0;exact⟨x,hx,aT.dE tr qo v0 x hr⟩
section
variable {P : Program} {T : dV} {σ : Type} {Y : Hd σ}
theorem w8(n:Nat)(ids:List Nat){e:Env}{h:aq}{s:σ}{d:Option Nat}{f:FuncId}{args:List V}{K:St σ->Prop}
  (hc:dK P Y ⟨ct (dE (dJ (aQ ids h) n)) e,ct (jN (dJ (aQ ids h) n)) (tJ h ids),s⟩ d f (fG (dJ (aQ ids h) n) args) K):dK P Y ⟨e,h,s⟩ d f args K:=by
 obtain⟨h1,h2⟩:=hc;refine⟨h1,fun cx hY r m L F a w a9 hg hd hr=>?_⟩;obtain⟨F1,fP,tr,hv⟩:=hg.OY n ids;refine(h2 cx hY r m L F1 a w a9 fP hd (hv _ _ hr)).mono ?_;rintro en w' (⟨x,rfl,dm,L',F',hk,eL,nA⟩|⟨pv,pe,ph,ps,L',F',he,hy,Jf,Ki⟩)
 ·exact .inl ⟨x,rfl,dm,L',F',hk,eL,Tr.trans tr nA⟩
 ·exact .inr ⟨pv,pe,ph,ps,L',F',he,hy,Jf,Tr.trans tr Ki⟩
theorem xa{e e':Env}{h h':aq}{s:σ}{d:Option Nat}{f:FuncId}{args args':List V}{K:St σ->Prop}(he:we e e')(hh:rO h h')(ha:args=args')(hc:dK P Y ⟨e',h',s⟩ d f args' K):dK P Y ⟨e,h,s⟩ d f args K:=by
 subst ha;obtain⟨h1,h2⟩:=hc;refine⟨h1,fun cx hY r m L F a w a9 hg hd hr=>?_⟩;exact h2 cx hY r m L F a w a9 (hg.sub (wg he) (sN hh)) hd hr
end
section
variable {P : Program} {T : dV} {σ : Type} {Y : Hd σ}
theorem z8{st:St σ}{d:Option Nat}{f:FuncId}{args args':List V}{K:St σ->Prop}(ha:∀ (yv:Option Nat) (L:Loc) (F:Nat->Nat) (w:World) (l:List Value),aj yv L F w args l->aj yv L F w args' l)(hc:dK P Y st d f args' K):dK P Y st d f args K:=by
 obtain⟨h1,h2⟩:=hc;exact⟨h1,fun cx hY r m L F a w a9 hg hd hr=>h2 cx hY r m L F a w a9 hg hd (ha _ _ _ _ _ hr)⟩
theorem B0{st:St σ}{d:Option Nat}{f:FuncId}{r:List V}{K:St σ->Prop}(hc:dK P Y st d f (.d (.vs [])::r) K):dK P Y st d f (.d .nils::r) K:=by
 refine z8 (fun yv L F w l hv=>?_) hc;obtain⟨x,l',rfl,hx,hl⟩:=hv;have hx:x = .slice none 0 0:=hx;subst hx;exact⟨_,l',rfl,⟨none,0,0,rfl,rfl,Nat.le_refl _,fun h=>absurd rfl h⟩,hl⟩
end
theorem eK{h:aq}{k id sz n:Nat}{es es':List (List D)}(hg:get h id=some (.arr sz (.dd es)))(he:es=es')(hn:n=es'.length):cA (dJ h (k+1)) (.sl id sz 0 n)=some (.vs es'):=by
 subst he;exact cB hg hn
end Go.PX
namespace Go.PX
theorem iZ{g:Nat->Option DO}:∀ {a:List D} {r:List V} {r':List D},bZ g r=some r'->bZ g (inj a++r)=some (a++r')
 | [],r,r',h=>h
 | d::a,r,r',h=>by
  show bZ g (.d d::(inj a++r))=_;rw[bZ,iZ h];rfl
theorem sR{h:aq}{n id:Nat}{l:List V}{l':List D}(hg:get h id=some (.box (.vv l)))(hl:bZ (dJ h n) l=some l'):cA (dJ h (n+1)) (.ptr id 0)=some (.ref l'):=by
 simp only[cA,dJ,hg,hl,List.drop_zero]
theorem It{h:aq}{n id:Nat}{b0:List (D×D)}(hg:get h id=some (.map b0)):cA (dJ h (n+1)) (.mp id)=some (.mv b0):=by
 simp only[cA,dJ,hg]
theorem aj.CJ{yv:Option Nat}{L:Loc}{F:Nat->Nat}{w:World}{B:List V}(k sz:Nat)(hs:0<sz):∀ {A:List V} {l:List Value},aj yv L F w (A ++ .d .nils::B) l->aj yv L F w (A ++ .sl k sz 0 0::B) l
 | [],l,h=>by
  obtain⟨x,l',rfl,hx,hr⟩:=h;have hx:x = .slice none 0 0:=hx;subst hx;exact⟨_,l',rfl,⟨none,0,rfl,Nat.le_refl _,hs,.inl ⟨rfl,rfl⟩⟩,hr⟩
 | a::A,l,h=>by
  obtain⟨x,l',rfl,hx,hr⟩:=h;exact⟨x,l',rfl,hx,aj.CJ k sz hs hr⟩
theorem Wk.Lt{σ:Type}{e:Env}{h:aq}{s:σ}(b k sz:Nat)(A B:List V)(hk:Nat.blt k 1000000=true)(hs:Nat.blt 0 sz=true)(hb:get (ct (Obj.aE (aZ k)) (cut h k)) b=some (.box (.vv (A ++ .d .nils::B))))(j8:Nat.beq b k=false) :
  Wk (⟨e,h,s⟩:St σ) ⟨ct (aE (aZ k)) e,put (((k,.arr sz (.dd []))::ct (Obj.aE (aZ k)) (cut h k))) b (.box (.vv (A ++ .sl k sz 0 0::B))),s⟩:=by
 have hk:=Nat.le_of_ble_eq_true hk;have hs:=Nat.le_of_ble_eq_true hs;have ef:b≠k:=by rintro rfl;simp at j8
 have h1:Wk (⟨e,h,s⟩:St σ) ⟨ct (aE (aZ k)) e,((k,.arr sz (.dd []))::ct (Obj.aE (aZ k)) (cut h k)),s⟩:=by
  intro cx r m L F a w hg;exact⟨_,F,hg.kB k sz (by unfold pinned;omega) hs (.dd []) rfl,Tr.refl F w⟩
 refine h1.trans (Wk.Eb b (o:=.box (.vv (A ++ .d .nils::B))) _ (by rw[dQ,if_neg ef];exact hb) (fun yv L F w h=>?_) fun L hb=>hb);obtain⟨c,T,hc,hr⟩:=h;exact⟨c,T,hc,aj.CJ k sz hs hr⟩
end Go.PX
