import Derived.Test.YtmbefpmbnhdbpaaGreatDoorPxH
set_option linter.all false
namespace Go.PX
open Go.RowKit
mutual
def jv:V->Bool
 | .agg cs=>jw cs
 | .tup cs=>jw cs
 | .clo _ cs=>jw cs
 | .yld=>false
 | _=>true
def jw:List V->Bool
 | []=>true
 | v::r=>jv v&&jw r
end
mutual
theorem bg.jv{yv WK:Option Nat}{L:Loc}{F:Nat->Nat}{w:World}:∀ (v:V) (x:Value),PX.jv v=true->bg yv L F w v x->bg WK L F w v x
 | .d _,_,_,h=>h
 | .agg cs,x,hy,h=>by
  obtain⟨l,rfl,hl⟩:=h;exact⟨l,rfl,aq.jv cs _ hy hl⟩
 | .tup cs,x,hy,h=>by
  obtain⟨l,rfl,hl⟩:=h;exact⟨l,rfl,aq.jv cs _ hy hl⟩
 | .clo f cs,x,hy,h=>by
  obtain⟨l,rfl,hl⟩:=h;exact⟨l,rfl,aq.jv cs _ hy hl⟩
 | .ptr _ _,_,_,h=>h
 | .ep _ _ _ _,_,_,h=>h
 | .sl _ _ _ _,_,_,h=>h
 | .mp _,_,_,h=>h
 | .it _,_,_,h=>h
 | .yld,_,hy,_=>by cases hy
 | .unk,_,_,h=>h
theorem aq.jv{yv WK:Option Nat}{L:Loc}{F:Nat->Nat}{w:World}:∀ (vs:List V) (l:List Value),jw vs=true->aq yv L F w vs l->aq WK L F w vs l
 | [],_,_,h=>h
 | v::r,l,hy,h=>by
  simp only[jw,Bool.and_eq_true]at hy;obtain⟨x,l',rfl,hx,hl⟩:=h;exact⟨x,l',rfl,bg.jv v x hy.1 hx,aq.jv r l' hy.2 hl⟩
end
def oT:Obj->Bool
 | .box c=>jw c.bm
 | .arr _ es=>jw es.bm.flatten
 | .mit v _ _ _=>jv v
 | .tb _ l=>jw l
 | _=>true
def CB:Heap->Bool
 | []=>true
 | (_,o)::r=>oT o&&CB r
theorem qt:∀ {h:Heap} {i:Nat} {o:Obj},CB h=true->get h i=some o->oT o=true
 | [],i,o,_,h=>by cases h
 | (k,p)::r,i,o,hy,h=>by
  simp only[CB,Bool.and_eq_true]at hy;simp only[get]at h;split at h
  ·cases h;exact hy.1
  ·exact qt hy.2 h
theorem cb.jv{yv WK:Option Nat}{L:Loc}{F:Nat->Nat}{w:World}{id:Nat}(o:Obj)(hy:oT o=true)(h:cb yv L F w id o):cb WK L F w id o:=by
 cases o with
 | box cs=>
  obtain⟨c,T,hc,hr⟩:=h;exact⟨c,T,hc,aq.jv _ _ hy hr⟩
 | arr sz es=>
  obtain⟨h1,h2,h3⟩:=h;refine⟨h1,h2,h3.imp (fun h=>h) ?_⟩;rintro ⟨c,T,hc,k1,k2,hr⟩;refine⟨c,T,hc,k1,k2,aq.jv _ _ hy hr⟩
 | map cJ=>exact h
 | iter s n=>exact h
 | buf t s=>exact h
 | tb t l=>
  obtain⟨c,hc,hr⟩:=h;exact⟨c,hc,aq.jv _ _ hy hr⟩
 | mit v n l u=>
  obtain⟨r,seen,h1,h2⟩:=h;exact⟨r,seen,bg.jv v _ hy h1,h2⟩
inductive RS(α σ:Type) where
 | go (x:α)
 | done (e:fg) (h:Heap) (s:σ)
section
variable {α σ : Type}
def RS.heap(I:α->Heap×σ):RS α σ->Heap
 | .go x=>(I x).1
 | .done _ h _=>h
def RS.st(I:α->Heap×σ):RS α σ->σ
 | .go x=>(I x).2
 | .done _ _ s=>s
def RW:fg->Code
 | .ret=>.ret
 | .exit i=>.exit i
 | .normal=>.skip
def ke(base:Go.Loop):RS α σ->Go.Loop
 | .go _=>{ base with state:=.ready,pending:=none }
 | .done e _ _=>{ base with state:=.done,pending:=some (RW e) }
def xc(L:Loc)(h:Heap)(b:Nat):Prop:=∃ id o,get h id=some o/\aV L id o/\L.ρ id=b
def br(c n i:Nat):Bool:=Nat.ble c i&&Nat.blt i (c+n)
def sI(p:Nat->Bool):List Nat->Bool
 | []=>true
 | i::r=>p i&&sI p r
theorem ig{p:Nat->Bool}:∀ {l:List Nat},sI p l=true -> ∀ i∈l,p i=true
 | [],_,i,hi=>by cases hi
 | k::r,h,i,hi=>by
  simp only[sI,Bool.and_eq_true]at h;rcases List.mem_cons.1 hi with rfl|hi
  ·exact h.1
  ·exact ig h.2 i hi
def OG(c:Nat)(tb:List Nat)(h:Heap):Bool:=sI (fun i=>!br c 64 i && !FP tb i) (cX h)
def R6(args:List V)(h:Heap):Bool:=sI (br 1000000 64) (bJ args)&&sI (br 1000000 64) (cX h)&&(jw args&&CB h)
structure Qv(cx:Cx σ)(I:α->Heap×σ)(l:Nat)(m:List Nat)(r:Option Nat)(base:Go.Loop)(e1:Env)(tmps:Array Value)(c:Nat)(tb:List Nat)(pρ pκ:Nat->Nat)(F0:Nat->Nat)(w0:World)(g:RS α σ×Loc)(w:World)(F:Nat->Nat):Prop where
 heap:aZ cx g.2 F (g.1.heap I) (g.1.st I) w
 A2:w.heap[l]?=some (.loop (ke base g.1))/\¬ cx.C (g.1.st I) l
 pg:∀ b∈m,w.heap[b]?=some (.deferred (some []))/\¬ cx.C (g.1.st I) b
 out:∀ l0,r=some l0 -> ∃ lp,(w.heap[l0]?=some (.loop lp)/\cx.A2=some lp)/\¬ cx.C (g.1.st I) l0
 env:∀ t v,get e1 t=some v -> ∃ x,tmps[t]?=some x/\bg cx.yv g.2 F w v x
 jy:∀ i,pinned i->g.2.ρ i=pρ i/\g.2.κ i=pκ i
 tr:Tr F0 w0 F w
 ok:OG c tb (g.1.heap I)=true
def gl(cx:Cx σ)(I:α->Heap×σ)(l:Nat)(m:List Nat)(r:Option Nat)(base:Go.Loop)(e1:Env)(tmps:Array Value)(c:Nat)(tb:List Nat)(pρ pκ:Nat->Nat)(F0:Nat->Nat)(w0:World):Cx (RS α σ×Loc) where
 C:=fun g b=>cx.C (g.1.st I) b\/xc g.2 (g.1.heap I) b\/b=l\/b∈m\/r=some b
 HG:=fun g w F=>Qv cx I l m r base e1 tmps c tb pρ pκ F0 w0 g w F
 yv:=some l
 A2:=none
 pρ:=cx.pρ
 pκ:=cx.pκ
 fS:=by
  intro s w F w' F' h tr hf hk;refine⟨h.heap.nA tr hf (fun b hb=>hk b (.inl hb)) (fun id o hi hb=>hk _ (.inr (.inl ⟨id,o,hi,hb,rfl⟩))),⟨by rw[(hk l (.inr (.inr (.inl rfl)))).1];exact h.A2.1,h.A2.2⟩,
   fun b hb=>⟨by rw[(hk b (.inr (.inr (.inr (.inl hb))))).1];exact(h.pg b hb).1,(h.pg b hb).2⟩,fun l0 hl=>?_,fun t v ht=>?_,h.jy,Tr.trans h.tr tr,h.ok⟩
  ·obtain⟨lp,⟨k1,k2⟩,k3⟩:=h.out l0 hl
   exact⟨lp,⟨by rw[(hk l0 (.inr (.inr (.inr (.inr hl))))).1];exact k1,k2⟩,k3⟩
  ·obtain⟨x,hx,hr⟩:=h.env t v ht
   exact⟨x,hx,bg.mono tr v x (fun _ _=>⟨rfl,rfl⟩) hr⟩
def EF:List Tmp->List V->Env->Env
 | t::ps,v::vs,e=>EF ps vs (put e t v)
 | _,_,e=>e
def cT(c:Nat)(i:Nat):Nat:=
 match Nat.ble 1000000 i,Nat.blt i 1000064 with
 | true,true=>c+(i-1000000)
 | _,_=>i
noncomputable def sa(P:Program)(T:e7)(ft:FT)(Y:Hd σ)(I:α->Heap×σ)(ps:Array Tmp)(a b:Code)(e1:Env)(c:Nat)(tb:List Nat):Hd (RS α σ) where
 y:=fun args h g Q=>match g with
  | .done _ _ _=>False
  | .go x=>(args.length=ps.size/\R6 args h=true)/\Cy P T ft Y.np a ⟨EF ps.toList (tN (cT c) args) e1,(I x).1++fc (cT c) h,(I x).2⟩ fun e st=>match e with
   | .normal=>Cy P T ft Y.np b st fun e st'=>match e with
    | .normal=>∃ x',Wk st' ⟨[],(I x').1++fc (cT c) h,(I x').2⟩/\OG c tb (I x').1=true/\Q (.d (.bool true)) h (.go x')
    | e=>∃ hd s',Wk st' ⟨[],hd++fc (cT c) h,s'⟩/\OG c tb hd=true/\Q (.d (.bool false)) h (.done e hd s')
   | _=>False
def DY(Y:Hd (RS α σ)):Hd (RS α σ×Loc) where
 y:=fun args h g Q=>Y.y args h g.1 fun v h' g'=>∀ L',Q v h' (g',L')
theorem aZ.append{cx:Cx σ}{L:Loc}{F:Nat->Nat}{h k:Heap}{s:σ}{w:World}(hh:aZ cx L F h s w)(hk:aZ cx L F k s w)
  (hx:∀ i j o p,get h i=some o->get k j=some p->aV L i o->aV L j p->L.ρ i≠L.ρ j):aZ cx L F (h++k) s w:=by
 have hg:∀ {h:Heap} {i:Nat} {o:Obj},get (h++k) i=some o->get h i=some o\/get k i=some o:=by
  intro h
  induction h with
  | nil=>exact fun h=>.inr h
  | cons a r ih=>
   intro i o h;obtain⟨j,p⟩:=a;simp only[List.cons_append,get]at h ⊢;split at h
   ·exact .inl h
   ·exact ih h
 refine⟨hh.hg,hh.iw,hh.fresh,fun i o hi=>(hg hi).elim (hh.obj i o) (hk.obj i o),fun i o hi=>(hg hi).elim (hh.own i o) (hk.own i o),fun i j o p hi hj hb kS e=>?_⟩;rcases hg hi with hi|hi<;>rcases hg hj with hj|hj
 ·exact hh.inj i j o p hi hj hb kS e
 ·exact absurd e (hx i j o p hi hj hb kS)
 ·exact absurd e.symm (hx j i p o hj hi kS hb)
 ·exact hk.inj i j o p hi hj hb kS e
theorem oW{h k:Heap}{i:Nat}{o:Obj}:get h i=some o->get (h++k) i=some o:=by
 induction h with
 | nil=>intro h;cases h
 | cons a r ih=>
  intro h;obtain⟨j,p⟩:=a;simp only[List.cons_append,get]at h ⊢;split at h
  ·exact h
  ·exact ih h
theorem uw{h k:Heap}{i:Nat}{o:Obj}:get h i=none->get k i=some o->get (h++k) i=some o:=by
 induction h with
 | nil=>intro _ h;exact h
 | cons a r ih=>
  intro h1 h2;obtain⟨j,p⟩:=a;simp only[List.cons_append,get]at h1 ⊢;split at h1
  ·cases h1
  ·exact ih h1 h2
theorem vn{R:Nat->Nat}:∀ {h:Heap} {j:Nat} {o:Obj},(∀ i∈cX h,R i=R j->i=j)->get h j=some o->get (fc R h) (R j)=some (kf R o)
 | [],j,o,_,h=>by cases h
 | (k,p)::r,j,o,hi,h=>by
  simp only[get]at h;simp only[fc,get];split at h
  ·rename_i he
   have:=Nat.eq_of_beq_eq_true he;subst this;cases h;simp
  ·rename_i he
   have:Nat.beq (R k) (R j)=false:=by
    rw[Bool.eq_false_iff];intro e;have:=hi k (by simp[cX]) (Nat.eq_of_beq_eq_true e);subst this;simp at he
   simp only[this];exact vn (fun i h1=>hi i (by simp[cX,h1])) h
theorem ct.np{P:Program}{Y:Hd σ}{cx:Cx σ}(hY:ct P Y cx):ct P Y.np cx:=⟨hY.yld,hY.laid⟩
theorem ct.M5{P:Program}{Y:Hd σ}{cx:Cx σ}(hY:ct P Y cx)(A2:Option Go.Loop)(pρ pκ:Nat->Nat):ct P Y { cx with A2:=A2,pρ:=pρ,pκ:=pκ }:=by
 refine⟨?_,hY.laid⟩;intro l hl args h s Q hy L' F' aT w mc hr;obtain⟨fn,tmps,zq,body,h1,h2⟩:=hY.yld l hl args h s Q hy L' F' aT w ⟨mc.hg,mc.iw,mc.fresh,mc.obj,mc.own,mc.inj⟩ hr;refine⟨fn,tmps,zq,body,h1,h2.mono ?_⟩;rintro e w' ⟨x,he,v,h',s',Ka,GV,hq,eG,rest⟩;exact⟨x,he,v,h',s',Ka,GV,hq,⟨eG.hg,eG.iw,eG.fresh,eG.obj,eG.own,eG.inj⟩,rest⟩
theorem Good.record{cx:Cx σ}{l:Nat}{m:List Nat}{L:Loc}{F:Nat->Nat}{st:St σ}{a:Act}{w:World}(hg:Good cx (some l) m L F st a w)(lp:Go.Loop) :
  Good { cx with A2:=some lp } (some l) m L F st a (w.putObj l (.loop lp))/\Tr F w F (w.putObj l (.loop lp)):=by
 obtain⟨Xs,⟨h1,_⟩,h2⟩:=hg.lk l rfl;have tr:Tr F w F (w.putObj l (.loop lp)):=Tr.XO h1 (fun _ _ _ h=>by cases h) (fun _ _ h=>by cases h) (fun _ _ _ h=>by cases h);have hk:∀ x,x≠l->(w.putObj l (.loop lp)).heap[x]?=w.heap[x]?:=fun x hx=>World.putObj_heap_other hx;have hh:=hg.heap.nA tr (fun b hb=>hg.heap.fresh b (by simpa using hb)) (fun b hb=>⟨hk b (by rintro rfl;exact h2 hb),rfl⟩) (fun id o hi hb=>⟨hk _ (by
  intro e;exact(cb.tF (hg.heap.obj id o hi) hb (by rw[e];exact h1)).1 Xs rfl),rfl⟩)
 refine⟨⟨⟨hh.hg,hh.iw,hh.fresh,hh.obj,hh.own,hh.inj⟩,fun t v ht=>?_,hg.sR,fun b hb=>?_,hg.vD,fun l' hl=>?_,hg.jy,hg.ud⟩,tr⟩
 ·obtain⟨x,hx,hr⟩:=hg.env t v ht
  exact⟨x,hx,bg.mono tr v x (fun _ _=>⟨rfl,rfl⟩) hr⟩
 ·obtain⟨k1,k2⟩:=hg.pg b hb
  exact⟨by rw[hk b (by rintro rfl;rw[h1]at k1;cases k1)];exact k1,k2⟩
 ·cases hl
  exact⟨lp,⟨World.putObj_heap_same (cf h1),rfl⟩,h2⟩
end
end Go.PX
namespace Go.PX
open Go.RowKit
section
variable {P : Program} {T : e7} {ft : FT} {α σ : Type} {Y : Hd σ} {cx : Cx σ} {I : α -> Heap × σ} {l : Nat} {m : List Nat} {r : Option Nat} {base : Go.Loop} {e1 : Env} {tmps : Array Value} {c : Nat} {tb : List Nat} {pρ pκ : Nat -> Nat} {F0 : Nat -> Nat} {w0 : World}
theorem nB{c i:Nat}(h:br 1000000 64 i=true):cT c i=c+(i-1000000)/\1000000<=i/\i<1000064:=by
 simp only[br,Bool.and_eq_true]at h;have h1:=Nat.le_of_ble_eq_true h.1;have h2:i<1000064:=Nat.le_of_ble_eq_true h.2;exact⟨by unfold cT;rw[h.1,show Nat.blt i 1000064=true from h.2],h1,h2⟩
theorem fY{c n i:Nat}:br c n i=true↔c<=i/\i<c+n:=by
 simp only[br,Bool.and_eq_true];exact⟨fun h=>⟨Nat.le_of_ble_eq_true h.1,Nat.le_of_ble_eq_true h.2⟩,fun h=>⟨Nat.ble_eq_true_of_le h.1,Nat.ble_eq_true_of_le h.2⟩⟩
def cg(c:Nat)(L L2:Loc):Loc:=⟨fun j=>if br c 64 j then L2.ρ (1000000+(j-c)) else L.ρ j,fun j=>if br c 64 j then L2.κ (1000000+(j-c)) else L.κ j⟩
theorem eS{L L2:Loc}{j:Nat}(h:br c 64 j=false):(cg c L L2).ρ j=L.ρ j/\(cg c L L2).κ j=L.κ j:=by
 simp[cg,h]
theorem kh{L L2:Loc}{i:Nat}(h:br 1000000 64 i=true):(cg c L L2).ρ (cT c i)=L2.ρ i/\(cg c L L2).κ (cT c i)=L2.κ i:=by
 obtain⟨h1,h2,h3⟩:=nB (c:=c) h;have:br c 64 (cT c i)=true:=by rw[fY];omega
 have h4:1000000+(cT c i-c)=i:=by omega
 simp[cg,this,h4]
theorem tG{h:Heap}(hk:OG c tb h=true):∀ i∈cX h,br c 64 i=false/\i∉tb:=by
 intro i hi;have:=ig hk i hi;simp only[Bool.and_eq_true,Bool.not_eq_true']at this;exact⟨this.1,fun hm=>by rw[il.2 hm]at this;cases this.2⟩
theorem A9:∀ {ps:List Tmp} {vs:List V} {e:Env} {aT:List Value} {t0:Array Value} {yv:Option Nat} {L:Loc} {F:Nat->Nat} {w:World},ps.length=vs.length->(∀ p∈ps,p<t0.size)->aq yv L F w vs aT->(∀ t v,get e t=some v -> ∃ x,t0[t]?=some x/\bg yv L F w v x) ->
  ∀ t v,get (EF ps vs e) t=some v -> ∃ x,((ps.zip aT).foldl (fun tm (p:Tmp×Value)=>tm.setIfInBounds p.1 p.2) t0)[t]?=some x/\bg yv L F w v x
 | [],vs,e,aT,t0,yv,L,F,w,_,_,_,he,t,v,ht=>by
  have:EF [] vs e=e:=by cases vs<;>rfl
  rw[this]at ht;simpa using he t v ht
 | p::ps,[],e,aT,t0,yv,L,F,w,hl,_,_,_,_,_,_=>by cases hl
 | p::ps,v0::vs,e,_,t0,yv,L,F,w,hl,hp,⟨x,l',rfl,hx,hr⟩,he,t,v,ht=>by
  simp only[List.zip_cons_cons,List.foldl_cons];refine A9 (ps:=ps) (vs:=vs) (e:=put e p v0) (t0:=t0.setIfInBounds p x) (by simpa using hl) (fun q hq=>by simpa using hp q (List.mem_cons_of_mem _ hq)) hr (fun t' v' Xi=>?_) t v ht;clear ht;rw[eM]at Xi;split at Xi
  ·rename_i e1;cases Xi;rw[e1]
   exact⟨x,by simp[Array.getElem?_setIfInBounds,hp p (List.mem_cons_self ..)],hx⟩
  ·rename_i e1
   obtain⟨y,hy,DN⟩:=he t' v' Xi;exact⟨y,by rw[Array.getElem?_setIfInBounds_ne (Ne.symm e1)];exact hy,DN⟩
theorem rN:∀ (l:List (Tmp×Value)) (t0:Array Value),(l.foldl (fun tm (p:Tmp×Value)=>tm.setIfInBounds p.1 p.2) t0).size=t0.size
 | [],t0=>rfl
 | p::l,t0=>by simp only[List.foldl_cons];rw[rN l];simp
def wQ(cx:Cx σ)(s0:σ)(w:World)(F:Nat->Nat)(Own:Nat->Prop)(l:Nat)(A2:Option Go.Loop)(pρ pκ:Nat->Nat):Cx σ:=
 { B9 cx s0 w F (fun b=>Own b\/b=l) with A2:=A2,pρ:=pρ,pκ:=pκ }
theorem Ex{cx:Cx σ}{I:α->Heap×σ}{x:α}{L1:Loc}{w:World}{F:Nat->Nat}(hg:(gl cx I l m r base e1 tmps c tb pρ pκ F0 w0).HG (.go x,L1) w F)(ye:base.state = .ready/\base.pending=none){ps:Array Tmp}
  (DH:∀ p∈ps.toList,p<tmps.size) (htm:tmps.size<=1000000) (hc:1000000<=c/\c+64<=2000000) (hE:∀ i∈gO e1,pinned i/\br c 64 i=false) {args:List V} {h:Heap} {L2:Loc} {aT:Array Value}
  (hh:aZ (gl cx I l m r base e1 tmps c tb pρ pκ F0 w0) L2 F h (.go x,L1) w) (hr:aq (some l) L2 F w args aT.toList) (hlen:args.length=ps.size) (gh:R6 args h=true) :
  Good (wQ cx (I x).2 w F (xc (cg c L1 L2) ((I x).1++fc (cT c) h)) l (some base) (cg c L1 L2).ρ (cg c L1 L2).κ) (some l) [] (cg c L1 L2) F
   ⟨EF ps.toList (tN (cT c) args) e1,(I x).1++fc (cT c) h,(I x).2⟩ { tmps:=(ps.zip aT).foldl (fun t (p,v)=>t.setIfInBounds p v) tmps,defers:=[] } w:=by
 obtain⟨i1,i2,i3,i4,i5,i6,i7,i8⟩:=hg;simp only[RS.heap,RS.st]at i1 i2 i3 i4 i8;simp only[R6,Bool.and_eq_true]at gh;obtain⟨⟨hA,hB⟩,Xl⟩:=gh;have hA:=ig hA;have hB:=ig hB;have hC:=tG i8;have Ln:aZ cx L2 F h (I x).2 w:=⟨i1.hg,fun b hb=>hh.iw b (.inl hb),hh.fresh,fun id o hi=>cb.jv o (qt Xl.2 hi) (hh.obj id o hi),fun id o hi hb=>⟨(hh.own id o hi hb).1,fun h=>(hh.own id o hi hb).2 (.inl h)⟩,hh.inj⟩;have Rw:aq cx.yv L2 F w args aT.toList:=aq.jv _ _ Xl.1 hr;have hA1:aZ cx (cg c L1 L2) F (I x).1 (I x).2 w:=by
  refine⟨i1.hg,i1.iw,i1.fresh,fun id o hi=>?_,fun id o hi hb=>?_,fun i j o p hi hj hb kS e=>?_⟩
  ·obtain⟨n1,n2⟩:=bj hi
   exact cb.mono (Tr.refl F w) id o (fun j hj=>eS (hC j (n2 j (fu j o hj))).1) (eS (hC id n1).1) (fun _=>rfl) (i1.obj id o hi)
  ·obtain⟨n1,n2⟩:=bj hi
   obtain⟨q1,q2⟩:=eS (L:=L1) (L2:=L2) (hC id n1).1;rw[q1];exact i1.own id o hi (fH q2 hb)
  ·obtain⟨n1,_⟩:=bj hi
   obtain⟨n2,_⟩:=bj hj;obtain⟨q1,q2⟩:=eS (L:=L1) (L2:=L2) (hC i n1).1;obtain⟨q3,q4⟩:=eS (L:=L1) (L2:=L2) (hC j n2).1;rw[q1,q3]at e;exact i1.inj i j o p hi hj (fH q2 hb) (fH q4 kS) e
 have IK:aZ cx (cg c L1 L2) F (fc (cT c) h) (I x).2 w:=Ln.o6 fun i hi=>kh (hB i hi);have WV:=hA1.append IK (by
  intro i j o p hi hj hb kS e;obtain⟨n1,_⟩:=bj hi;obtain⟨q1,q2⟩:=eS (L:=L1) (L2:=L2) (hC i n1).1;obtain⟨j',p',DB,rfl,rfl⟩:=lG hj;obtain⟨n2,_⟩:=bj DB;obtain⟨q3,q4⟩:=kh (c:=c) (L:=L1) (L2:=L2) (hB j' n2);rw[q1,q3]at e;refine(hh.own j' p' DB ((cG (R:=cT c) (L:=L2) (L':=cg c L1 L2) j' p' q4).1 kS)).2 (.inr (.inl ⟨i,o,hi,fH q2 hb,e⟩)))
 refine⟨⟨⟨i1.hg,Nat.le_refl _,fun b hb hc=>hc,fun b hb hl hc=>⟨rfl,rfl⟩⟩,fun b hb=>hb.elim (i1.iw b) (fun h=>h.1),i1.fresh,WV.obj,fun id o hi hb=>⟨(WV.own id o hi hb).1,fun hC=>hC.elim (WV.own id o hi hb).2 fun hC=>hC.2 (.inl ⟨id,o,hi,hb,rfl⟩)⟩,WV.inj⟩,?_,rfl,(fun b hb=>by cases hb),List.nodup_nil,?_,fun _ _=>⟨rfl,rfl⟩,?_⟩
 ·intro t v ht
  have Vi:aq cx.yv (cg c L1 L2) F w (tN (cT c) args) aT.toList:=(aq.o6 (R:=cT c) (L:=L2) (L':=cg c L1 L2) args _ fun i hi=>kh (hA i (fq i args hi))).2 Rw;have:=A9 (ps:=ps.toList) (t0:=tmps) (by simp[jU,hlen]) DH Vi (fun t v ht=>by
   obtain⟨y,hy,DN⟩:=i5 t v ht;exact⟨y,hy,bg.mono (Tr.refl F w) v y (fun j hj=>eS (hE j (jl ht hj)).2) DN⟩) t v ht
  rw[<- Array.foldl_toList,Array.toList_zip];exact this
 ·intro l' hl
  cases hl;have hb:ke base (RS.go x:RS α σ)=base:=by
   obtain⟨h1,h2⟩:=ye;cases base;simp only at h1 h2;subst h1;subst h2;rfl
  rw[hb]at i2;exact⟨base,⟨i2.1,rfl⟩,fun hC=>hC.elim i2.2 fun hC=>hC.2 (.inr rfl)⟩
 ·show((ps.zip aT).foldl (fun t (p,v)=>t.setIfInBounds p v) tmps).size<=1000000
  rw[<- Array.foldl_toList,rN];exact htm
theorem Ey{cx:Cx σ}{I:α->Heap×σ}{x:α}{L1:Loc}{w:World}{F:Nat->Nat}(hg:(gl cx I l m r base e1 tmps c tb pρ pκ F0 w0).HG (.go x,L1) w F)(LG:r≠some l)(hc:1000000<=c/\c+64<=2000000)(hE:∀ i∈gO e1,pinned i/\br c 64 i=false)
  {args:List V} {h:Heap} {L2:Loc} (hh:aZ (gl cx I l m r base e1 tmps c tb pρ pκ F0 w0) L2 F h (.go x,L1) w) (gh:R6 args h=true) {lp:Go.Loop} {m1:List Nat} {L3:Loc} {F3:Nat->Nat} {a:Act} {w3:World} {g:RS α σ} (wH:ke lp g=ke base g)
  (hd:Good (wQ cx (I x).2 w F (xc (cg c L1 L2) ((I x).1++fc (cT c) h)) l (some lp) (cg c L1 L2).ρ (cg c L1 L2).κ) (some l) m1 L3 F3 ⟨[],g.heap I++fc (cT c) h,g.st I⟩ a w3) (zK:OG c tb (g.heap I)=true) (tr:Tr F w F3 w3) :
  ∃ L4 L5,aZ (gl cx I l m r base e1 tmps c tb pρ pκ F0 w0) L5 F3 h (g,L4) (w3.putObj l (.loop (ke base g)))/\Tr F w F3 (w3.putObj l (.loop (ke base g)))/\mh L2 L5 /\
   (∀ b,b<w.heap.size->¬ (gl cx I l m r base e1 tmps c tb pρ pκ F0 w0).C (.go x,L1) b->¬ (gl cx I l m r base e1 tmps c tb pρ pκ F0 w0).C (g,L4) b) /\
   (∀ b,b<w.heap.size->¬ (gl cx I l m r base e1 tmps c tb pρ pκ F0 w0).C (.go x,L1) b->(∀ id o,get h id=some o->aV L2 id o->L2.ρ id≠b)->(w3.putObj l (.loop (ke base g))).heap[b]?=w.heap[b]?/\F3 b=F b) /\
   (∀ id o,get h id=some o->aV L5 id o->L5.ρ id<w.heap.size -> ∃ oA o',get h oA=some o'/\aV L2 oA o'/\L2.ρ oA=L5.ρ id):=by
 obtain⟨i1,i2,i3,i4,i5,i6,i7,i8⟩:=hg;simp only[RS.heap,RS.st]at i1 i2 i3 i4 i8;simp only[R6,Bool.and_eq_true]at gh;obtain⟨⟨hA,hB⟩,Xl⟩:=gh;have hB:=ig hB;have hC:=tG i8;have WX:=tG zK;obtain⟨zF,dc,Ds,im⟩:=hd.heap.hg;obtain⟨lp',⟨k1,k2⟩,k3⟩:=hd.lk l rfl;have k2:some lp=some lp':=k2;cases k2;have hlC:¬ cx.C (g.st I) l:=fun h=>k3 (.inl h);have fF:∀ i,br c 64 i=true->pinned i:=fun i hi=>by rw[fY]at hi;unfold pinned;omega
 have ua:∀ i,br 1000000 64 i=true->L3.ρ (cT c i)=L2.ρ i/\L3.κ (cT c i)=L2.κ i:=by
  intro i hi;obtain⟨p1,p2⟩:=hd.jy (cT c i) (by obtain⟨q1,q2,q3⟩:=nB (c:=c) hi;unfold pinned;omega);obtain⟨p3,p4⟩:=kh (c:=c) (L:=L1) (L2:=L2) hi;exact⟨p1.trans p3,p2.trans p4⟩
 let L4:Loc:=⟨fun j=>if br c 64 j then L1.ρ j else L3.ρ j,fun j=>if br c 64 j then L1.κ j else L3.κ j⟩
 have SC:∀ j,br c 64 j=false->L4.ρ j=L3.ρ j/\L4.κ j=L3.κ j:=fun j hj=>by simp[L4,hj]
 have Ut:∀ i,pinned i->L4.ρ i=L1.ρ i/\L4.κ i=L1.κ i:=by
  intro i hi
  cases hr:br c 64 i with
  | true=>simp[L4,hr]
  | false=>
   obtain⟨p1,p2⟩:=hd.jy i hi;obtain⟨p3,p4⟩:=eS (L:=L1) (L2:=L2) hr;obtain⟨p5,p6⟩:=SC i hr;exact⟨p5.trans (p1.trans p3),p6.trans (p2.trans p4)⟩
 have mV:Tr F3 w3 F3 (w3.putObj l (.loop (ke base g))):=Tr.XO k1 (fun _ _ _ h=>by cases h) (fun _ _ h=>by cases h) (fun _ _ _ h=>by cases h);have hk:∀ y,y≠l->(w3.putObj l (.loop (ke base g))).heap[y]?=w3.heap[y]?:=fun y hy=>World.putObj_heap_other hy;have nt:∀ id o,get (g.heap I++fc (cT c) h) id=some o->aV L3 id o->L3.ρ id≠l:=fun id o hi hb e=>(cb.tF (hd.heap.obj id o hi) hb (by rw[e];exact k1)).1 _ rfl;have AJ:=hd.heap.nA (F':=F3) mV (fun b hb=>hd.heap.fresh b (by simpa using hb)) (fun b hb=>⟨hk b (by rintro rfl;exact k3 hb),rfl⟩) (fun id o hi hb=>⟨hk _ (nt id o hi hb),rfl⟩);obtain⟨YQ,_,_,_⟩:=AJ.hg;have mu:∀ i o,get (g.heap I) i=some o->get (g.heap I++fc (cT c) h) i=some o:=fun i o hi=>oW hi;have B1:∀ i o,get h i=some o->get (g.heap I++fc (cT c) h) (cT c i)=some (kf (cT c) o):=by
  intro i o hi;obtain⟨n1,_⟩:=bj hi;have PY:get (g.heap I) (cT c i)=none:=by
   cases hq:get (g.heap I) (cT c i) with
   | none=>rfl
   | some o'=>
    have:=(WX _ (bj hq).1).1;obtain⟨q1,q2,q3⟩:=nB (c:=c) (hB i n1);rw[show br c 64 (cT c i)=true from by rw[fY];omega]at this;cases this
  refine uw PY (vn (fun j hj e=>?_) hi);obtain⟨q1,q2,q3⟩:=nB (c:=c) (hB i n1);obtain⟨q4,q5,q6⟩:=nB (c:=c) (hB j hj);omega
 have wF:∀ i o,get h i=some o->(aV L3 (cT c i) (kf (cT c) o)↔aV L2 i o):=fun i o hi=>cG (R:=cT c) (L:=L2) (L':=L3) i o (ua i (hB i (bj hi).1)).2;have LN:∀ i o,get (g.heap I) i=some o->L4.ρ i=L3.ρ i/\L4.κ i=L3.κ i:=fun i o hi=>SC i (WX i (bj hi).1).1;have K9:∀ b,xc (cg c L1 L2) ((I x).1++fc (cT c) h) b->xc L1 (I x).1 b \/ ∃ j p,get h j=some p/\aV L2 j p/\L2.ρ j=b:=by
  rintro b ⟨j,p,hj,jx,e⟩
  cases hq:get (I x).1 j with
  | some p'=>
   have:p'=p:=by
    have:=oW (k:=fc (cT c) h) hq;rw[hj]at this;exact(Option.some.inj this).symm
   subst this;obtain⟨q1,q2⟩:=eS (L:=L1) (L2:=L2) (hC j (bj hq).1).1;exact .inl ⟨j,p',hq,fH q2 jx,by rw[<- q1];exact e⟩
  | none=>
   have DB:get (fc (cT c) h) j=some p:=by
    have Zw:∀ (k:Heap),get k j=none -> ∀ k',get (k++k') j=get k' j:=by
     intro k
     induction k with
     | nil=>intro _ _;rfl
     | cons kv r ih=>
      obtain⟨u,v⟩:=kv;intro h1 k';simp only[List.cons_append,get]at h1 ⊢;split at h1
      ·cases h1
      ·exact ih h1 k'
    rw[<- Zw _ hq];exact hj
   obtain⟨j',p',UT,rfl,rfl⟩:=lG DB;obtain⟨q3,q4⟩:=kh (c:=c) (L:=L1) (L2:=L2) (hB j' (bj UT).1);exact .inr ⟨j',p',UT,(cG (R:=cT c) (L:=L2) (L':=cg c L1 L2) j' p' q4).1 jx,by rw[<- q3];exact e⟩
 have DF:∀ i o,get (g.heap I) i=some o->aV L4 i o->¬ cx.C (g.st I) (L3.ρ i)/\F3 (L3.ρ i)=0/\L3.ρ i≠l/\(L3.ρ i<w.heap.size->xc L1 (I x).1 (L3.ρ i)) /\ ∀ j p,get h j=some p->aV L2 j p->L3.ρ i≠L2.ρ j:=by
  intro i o hi hb;have JU:aV L3 i o:=fH (LN i o hi).2 hb;obtain⟨p1,p2⟩:=hd.heap.own i o (mu i o hi) JU;have eW:∀ j p,get h j=some p->aV L2 j p->L3.ρ i≠L2.ρ j:=by
   intro j p hj jx e;obtain⟨n1,_⟩:=bj hj;have:=hd.heap.inj i (cT c j) o _ (mu i o hi) (B1 j p hj) JU ((wF j p hj).2 jx) (by rw[(ua j (hB j n1)).1];exact e);have h1:=(WX i (bj hi).1).1;rw[this]at h1;obtain⟨q1,q2,q3⟩:=nB (c:=c) (hB j n1);rw[show br c 64 (cT c j)=true from by rw[fY];omega]at h1;cases h1
  refine⟨fun h=>p2 (.inl h),p1,nt i o (mu i o hi) JU,fun dN=>?_,eW⟩;have:xc (cg c L1 L2) ((I x).1++fc (cT c) h) (L3.ρ i)\/L3.ρ i=l:=Classical.byContradiction fun hn=>p2 (.inr ⟨dN,hn⟩);rcases this with ho|e
  ·rcases K9 _ ho with ho|⟨j,p,hj,jx,e⟩
   ·exact ho
   ·exact absurd e.symm (eW j p hj jx)
  ·exact absurd e (nt i o (mu i o hi) JU)
 have nu:∀ b,b<w.heap.size->¬ xc (cg c L1 L2) ((I x).1++fc (cT c) h) b->b≠l->¬ cx.C (I x).2 b->(w3.putObj l (.loop (ke base g))).heap[b]?=w.heap[b]?/\F3 b=F b:=fun b hb ho hl hC=>by
  obtain⟨q1,q2⟩:=im b hb (fun h=>h.elim ho hl) hC;exact⟨(hk b hl).trans q1,q2⟩
 have UE:∀ b o,w.heap[b]?=some o->((∃ lp,o = .loop lp) \/ ∃ d,o = .deferred d)->¬ xc (cg c L1 L2) ((I x).1++fc (cT c) h) b:=by
  intro b o hb ho ZS;have:(∀ lp,o ≠ .loop lp)/\(∀ d,o ≠ .deferred d):=by
   rcases K9 b ZS with⟨j,p,hj,jx,e⟩|⟨j,p,hj,jx,e⟩
   ·exact cb.tF (i1.obj j p hj) jx (by rw[e];exact hb)
   ·exact cb.tF (hh.obj j p hj) jx (by rw[e];exact hb)
  rcases ho with⟨lp,rfl⟩|⟨d,rfl⟩
  ·exact this.1 _ rfl
  ·exact this.2 _ rfl
 refine⟨L4,L2,?_,Tr.trans tr mV,fun _ _=>⟨rfl,rfl⟩,?_,?_,fun id o hi hb _=>⟨id,o,hi,hb,rfl⟩⟩
 ·have QU:Qv cx I l m r base e1 tmps c tb pρ pκ F0 w0 (g,L4) (w3.putObj l (.loop (ke base g))) F3:=by
   refine⟨⟨YQ,fun b hb=>AJ.iw b (.inl hb),AJ.fresh,fun i o hi=>?_,fun i o hi hb=>?_,fun i j o p hi hj hb kS e=>?_⟩,⟨World.putObj_heap_same (cf k1),hlC⟩,fun b hb=>?_,fun l0 JX=>?_,fun t v ht=>?_,fun i hi=>?_,Tr.trans i7 (Tr.trans tr mV),zK⟩
   ·refine cb.mono (Tr.refl _ _) i o (fun j hj=>SC j (WX j ((bj hi).2 j (fu j o hj))).1) (LN i o hi) (fun _=>rfl) (AJ.obj i o (mu i o hi))
   ·obtain⟨z1,z2,_⟩:=DF i o hi hb
    show F3 (L4.ρ i)=0/\¬ cx.C (g.st I) (L4.ρ i);rw[(LN i o hi).1];exact⟨z2,z1⟩
   ·have e:L4.ρ i=L4.ρ j:=e
    rw[(LN i o hi).1,(LN j p hj).1]at e;exact hd.heap.inj i j o p (mu i o hi) (mu j p hj) (fH (LN i o hi).2 hb) (fH (LN j p hj).2 kS) e
   ·obtain⟨z1,z2⟩:=i3 b hb
    have dN:=cf z1;have wF:b≠l:=by rintro rfl;rw[i2.1]at z1;cases z1
    exact⟨by rw[(nu b dN (UE b _ z1 (.inr ⟨_,rfl⟩)) wF z2).1];exact z1,Ds b dN z2⟩
   ·obtain⟨Xs,⟨z1,z0⟩,z2⟩:=i4 l0 JX
    have dN:=cf z1;have wF:l0≠l:=by rintro rfl;exact LG JX
    exact⟨Xs,⟨by rw[(nu l0 dN (UE l0 _ z1 (.inl ⟨_,rfl⟩)) wF z2).1];exact z1,z0⟩,Ds l0 dN z2⟩
   ·obtain⟨y,hy,DN⟩:=i5 t v ht
    exact⟨y,hy,bg.mono (Tr.trans tr mV) v y (fun j hj=>Ut j (hE j (jl ht hj)).1) DN⟩
   ·obtain⟨p1,p2⟩:=Ut i hi
    obtain⟨p3,p4⟩:=i6 i hi;exact⟨p1.trans p3,p2.trans p4⟩
  refine⟨QU,fun b hb=>?_,AJ.fresh,fun i o hi=>?_,fun i o hi hb=>?_,fun i j o p hi hj hb kS e=>hh.inj i j o p hi hj hb kS e⟩
  ·rcases hb with hb|⟨id,o,hi,hb,e⟩|rfl|hb|hb
   ·exact AJ.iw b (.inl hb)
   ·have dN:=(hd.heap.obj id o (mu id o hi)).lt (fH (LN id o hi).2 hb)
    have e:L4.ρ id=b:=e;rw[(LN id o hi).1]at e;rw[<- e];simpa using dN
   ·simpa using cf k1
   ·exact cf (QU.pg b hb).1
   ·obtain⟨Xs,⟨z1,_⟩,_⟩:=QU.out b hb
    exact cf z1
  ·have h1:=AJ.obj _ _ (B1 i o hi)
   have h2:=(cb.o6 (R:=cT c) (L:=L2) (L':=L3) i o (fun j hj=>ua j (hB j ((bj hi).2 j (fu j o hj)))) (ua i (hB i (bj hi).1))).1 h1;exact cb.jv o (qt Xl.2 hi) h2
  ·have JU:=(wF i o hi).2 hb
   obtain⟨z1,z2⟩:=hd.heap.own _ _ (B1 i o hi) JU;have hp:=(ua i (hB i (bj hi).1)).1;rw[hp]at z1 z2;refine⟨z1,?_⟩;rintro (K7|⟨id,o',Nk,kS,e⟩|e|hm|hm)
   ·exact z2 (.inl K7)
   ·obtain⟨_,_,_,_,z⟩:=DF id o' Nk kS
    have e:L4.ρ id=L2.ρ i:=e;rw[(LN id o' Nk).1]at e;exact z i o hi hb e
   ·exact nt _ _ (B1 i o hi) JU (by rw[hp];exact e)
   ·exact(hh.own i o hi hb).2 (.inr (.inr (.inr (.inl hm))))
   ·exact(hh.own i o hi hb).2 (.inr (.inr (.inr (.inr hm))))
 ·intro b hb hC K7
  rcases K7 with K7|⟨id,o',Nk,kS,e⟩|e|hm|hm
  ·exact Ds b hb (fun h=>hC (.inl h)) K7
  ·obtain⟨_,_,_,z,_⟩:=DF id o' Nk kS
   have e:L4.ρ id=b:=e;rw[(LN id o' Nk).1]at e;rw[e]at z;exact hC (.inr (.inl (z hb)))
  ·exact hC (.inr (.inr (.inl e)))
  ·exact hC (.inr (.inr (.inr (.inl hm))))
  ·exact hC (.inr (.inr (.inr (.inr hm))))
 ·intro b hb hC mX
  refine nu b hb ?_ (fun e=>hC (.inr (.inr (.inl e)))) (fun h=>hC (.inl h));intro ZS;rcases K9 b ZS with ho|⟨j,p,hj,jx,e⟩
  ·exact hC (.inr (.inl ho))
  ·exact mX j p hj jx e
end
section
variable {P : Program} {T : e7} {ft : FT} {α σ : Type} {Y : Hd σ} {cx : Cx σ} {I : α -> Heap × σ} {l : Nat} {m : List Nat} {r : Option Nat} {base : Go.Loop} {e1 : Env} {tmps : Array Value} {c : Nat} {tb : List Nat} {pρ pκ : Nat -> Nat} {F0 : Nat -> Nat} {w0 : World}
theorem zT(hT:bA P T){ps:Array Tmp}{a b:Code}(QS:dD P T ft a)(QT:dD P T ft b)(hY:ct P Y cx)(LG:r≠some l)
  (pa:base.params=ps) (mn:base.assign=a) (JU:base.body=b) (W0:base.tmps=tmps) (ye:base.state = .ready/\base.pending=none)
  (DH:∀ p∈ps.toList,p<tmps.size) (htm:tmps.size<=1000000) (Zc:codeOk tmps.size a=true) (mO:codeOk tmps.size b=true) (hc:1000000<=c/\c+64<=2000000) (hE:∀ i∈gO e1,pinned i/\br c 64 i=false) :
  ct P (DY (sa P T ft Y I ps a b e1 c tb)) (gl cx I l m r base e1 tmps c tb pρ pκ F0 w0):=by
 refine⟨?_,fun s w F hh=>hY.laid _ w F hh.heap.hg⟩;intro l' hl args h s Q hy L2 F aT w hh hr;cases hl;obtain⟨g,L1⟩:=s
 cases g with
 | done e hd s=>exact hy.elim
 | go x=>
  obtain⟨⟨hlen,gh⟩,hy⟩:=hy;have zF:=hh.hg;have hi:=zF.A2.1;have LF:ke base (RS.go x:RS α σ)=base:=by
   obtain⟨h1,h2⟩:=ye;cases base;simp only at h1 h2;subst h1;subst h2;rfl
  have hi:w.heap[l]?=some (.loop base):=by rw[<- LF];exact hi
  have FM:aT.size=base.params.size:=by
   have:=hr.length;rw[pa,<- hlen];simpa using this
  refine⟨base.fn,_,base.assign,base.body,run_yield hi FM,?_⟩;refine roundIn_of_wpIn (F:=Fence.wide) trivial ?_;have hg:=Ex zF ye DH htm hc hE hh hr hlen gh;have hYr:ct P Y (wQ cx (I x).2 w F (xc (cg c L1 L2) ((I x).1++fc (cT c) h)) l (some base) (cg c L1 L2).ρ (cg c L1 L2).κ):=(lT hY).M5 _ _ _;have dc:((ps.zip aT).foldl (fun t (p,v)=>t.setIfInBounds p v) tmps).size=tmps.size:=by rw[<- Array.foldl_toList,rN]
  rw[pa,mn,JU,W0];have hA:=dX hT a QS _ _ hy _ hYr.np (some l) [] _ F _ w hg (by rw[dc];exact Zc);refine wpIn_mono hA fun ex a1 w1 hq=>?_;rcases hq with⟨e',tR,m1,L3,F3,rfl,hk,eo,sy,rV⟩|⟨_,_,_,_,_,_,_,_,hp,_⟩
  case inr=>exact hp.elim
  cases e' with
  | exit i=>exact hk.elim
  | ret=>exact hk.elim
  | normal=>
   obtain⟨lp,⟨q1,q2⟩,_⟩:=eo.lk l rfl;have q2:some base=some lp:=q2;cases q2;refine⟨_,run_beginRound q1 ye.1,?_⟩;obtain⟨gC,Bf⟩:=eo.record { base with state:=.busy };have Y0:ct P Y { wQ cx (I x).2 w F (xc (cg c L1 L2) ((I x).1++fc (cT c) h)) l (some base) (cg c L1 L2).ρ (cg c L1 L2).κ with A2:=some { base with state:=.busy } }:=hYr.M5 (some { base with state:=.busy }) _ _;have hB:=dX hT b QT _ _ hk _ Y0.np (some l) m1 L3 F3 _ _ gC (by rw[rV];show codeOk (Array.size _) b=true;rw[dc];exact mO);refine wpIn_mono hB fun ex a2 w2 hq=>?_;rcases hq with⟨XQ,o7,m2,L4,F4,rfl,gu,Dz,Wm,hs3⟩|⟨_,_,_,_,_,_,_,_,hp,_⟩
   case inr=>exact hp.elim
   have trA:Tr F w F4 w2:=Tr.trans sy (Tr.trans Bf Wm);have fin:∀ (g:RS α σ) (jump:Option Code) (v:Bool),ke base g={ base with state:=if jump.isNone then .ready else .done,pending:=jump }->v=jump.isNone->Wk o7 ⟨[],g.heap I++fc (cT c) h,g.st I⟩->OG c tb (g.heap I)=true ->
     (∀ L',Q (.d (.bool v)) h (g,L')) -> ∃ u w',(Instr.endRound l jump).run P w2 = .ok u w' /\ ∃ x_1,Ending.returned u = .returned x_1 /\ ∃ v h' s' L' F',Q v h' s'/\aZ (gl cx I l m r base e1 tmps c tb pρ pκ F0 w0) L' F' h' s' w' /\
      bg (gl cx I l m r base e1 tmps c tb pρ pκ F0 w0).yv L' F' w' v x_1/\Tr F w F' w'/\mh L2 L' /\
      (∀ b,b<w.heap.size->¬ (gl cx I l m r base e1 tmps c tb pρ pκ F0 w0).C (.go x,L1) b->¬ (gl cx I l m r base e1 tmps c tb pρ pκ F0 w0).C s' b) /\
      (∀ b,b<w.heap.size->¬ (gl cx I l m r base e1 tmps c tb pρ pκ F0 w0).C (.go x,L1) b->(∀ id o,get h id=some o->aV L2 id o->L2.ρ id≠b)->w'.heap[b]?=w.heap[b]?/\F' b=F b) /\
      (∀ id o,get h' id=some o->aV L' id o->L'.ρ id<w.heap.size -> ∃ oA o',get h oA=some o'/\aV L2 oA o'/\L2.ρ oA=L'.ρ id):=by
    intro g jump v LF hv E2 zK hQ;obtain⟨L5,F5,W6,SX⟩:=E2 _ _ _ _ _ _ _ Dz;obtain⟨lp,⟨q3,q4⟩,_⟩:=W6.lk l rfl;have q4:some ({ base with state:=.busy }:Go.Loop)=some lp:=q4;cases q4;have yh:=run_endRound (P:=P) jump q3;have heq:({ ({ base with state:=.busy }:Go.Loop) with state:=if jump.isNone then .ready else .done,pending:=jump }:Go.Loop)=ke base g:=LF.symm;obtain⟨L6,L7,z1,z2,z3,z4,z5,z6⟩:=Ey zF LG hc hE hh gh (g:=g) (by cases g<;>rfl) W6 zK (Tr.trans trA SX);rw[heq]at yh;exact⟨_,_,yh,_,rfl,_,h,(g,L6),L7,F5,hQ L6,z1,by rw[hv];exact rfl,z2,z3,z4,z5,z6⟩
   cases XQ with
   | normal=>
    obtain⟨x',E2,zK,hQ⟩:=gu;exact fin (.go x') none true rfl rfl E2 zK hQ
   | ret=>
    obtain⟨hd,s',E2,zK,hQ⟩:=gu;exact fin (.done .ret hd s') (some .ret) false rfl rfl E2 zK hQ
   | exit i=>
    obtain⟨hd,s',E2,zK,hQ⟩:=gu;exact fin (.done (.exit i) hd s') (some (.exit i)) false rfl rfl E2 zK hQ
end
def Cl(c1 c2:Nat)(tb:List Nat)(e:Env)(h:Heap):Bool:=
 nodupB tb&&sI (fun i=>Nat.blt i 1000000) tb&&Nat.ble 1000000 c1&&Nat.ble (c1+tb.length) 2000000&&Nat.ble 1000000 c2&&Nat.ble (c2+64) 2000000&&sI (fun k=>!br c2 64 (c1+k)) (List.range tb.length) &&
  sI (fun i=>FP tb i||(Nat.ble 1000000 i&&Nat.blt i 2000000 && !br c1 tb.length i && !br c2 64 i)) (gO e) &&
  sI (fun i=>!br c1 tb.length i) (cX h)
section
variable {c1 : Nat} {tb : List Nat}
theorem Fj{k i:Nat}(h:tb[k]?=some i):sr c1 tb (c1+k)=i:=by
 unfold sr;rw[Nat.ble_eq_true_of_le (Nat.le_add_right c1 k),Nat.add_sub_cancel_left,h]
theorem wA{i:Nat}(h:br c1 tb.length i=false):sr c1 tb i=i:=by
 unfold sr;split
 ·rename_i hb
  have hb:=Nat.le_of_ble_eq_true hb;have:tb[i-c1]?=none:=by
   rw[List.getElem?_eq_none_iff];rcases Nat.lt_or_ge (i-c1) tb.length with dN|AF
   ·rw[show br c1 tb.length i=true from by rw[fY];omega]at h;cases h
   ·exact AF
  rw[this]
 ·rfl
theorem GH{k i:Nat}(hn:tb.Nodup)(h:tb[k]?=some i):rA c1 tb i=c1+k:=by
 unfold rA
 cases hx:idx tb c1 i with
 | none=>exact absurd (List.mem_of_getElem? h) (DR hx)
 | some j=>
  obtain⟨h1,h2⟩:=yq hx;have:=uM hn h2 h;show j=c1+k;omega
theorem tW{i:Nat}(h:i∉tb):rA c1 tb i=i:=by
 unfold rA
 cases hx:idx tb c1 i with
 | none=>rfl
 | some j=>exact absurd (List.mem_of_getElem? (yq hx).2) h
end
mutual
theorem vE{R:Nat->Nat}:∀ (v:V) (i:Nat),i∈cy (aL (qh R) v) -> ∃ j∈cy v,i=R j
 | .d _,i,h=>by cases h
 | .agg cs,i,h=>kU cs i h
 | .tup cs,i,h=>kU cs i h
 | .clo _ cs,i,h=>kU cs i h
 | .ptr j _,i,h=>⟨j,by simp[cy],by simpa[aL,qh,cy]using h⟩
 | .ep j _ _ _,i,h=>⟨j,by simp[cy],by simpa[aL,qh,cy]using h⟩
 | .sl j _ _ _,i,h=>⟨j,by simp[cy],by simpa[aL,qh,cy]using h⟩
 | .mp j,i,h=>⟨j,by simp[cy],by simpa[aL,qh,cy]using h⟩
 | .it j,i,h=>⟨j,by simp[cy],by simpa[aL,qh,cy]using h⟩
 | .yld,i,h=>by cases h
 | .unk,i,h=>by cases h
theorem kU{R:Nat->Nat}:∀ (vs:List V) (i:Nat),i∈bJ (dE (qh R) vs) -> ∃ j∈bJ vs,i=R j
 | [],i,h=>by cases h
 | v::r,i,h=>by
  rcases List.mem_append.1 (show i∈cy (aL (qh R) v)++bJ (dE (qh R) r) from h) with h|h
  ·obtain⟨j,hj,rfl⟩:=vE v i h
   exact⟨j,List.mem_append.2 (.inl hj),rfl⟩
  ·obtain⟨j,hj,rfl⟩:=kU r i h
   exact⟨j,List.mem_append.2 (.inr hj),rfl⟩
end
section
variable {P : Program} {T : e7} {ft : FT} {α σ : Type} {Y : Hd σ}
theorem iK.wk{g:Operand}{ps:Array Tmp}{a b:Code}{st st':St σ}{K:fg->St σ->Prop}(hw:Wk st st')(h:iK P ft Y g ps a b st' K):iK P ft Y g ps a b st K:=by
 obtain⟨h⟩:=h;exact⟨EW.wk hw h⟩
theorem E4(hT:bA P T){g:Operand}{ps:Array Tmp}{a b:Code}(QS:dD P T ft a)(QT:dD P T ft b){f:FuncId}{bS:List D}{e:Env}{h:Heap}{s:σ}{K:fg->St σ->Prop}(UO:aS e g=some (.d (.clo f bS)))
  (c1 c2:Nat) (tb:List Nat) (I:α->Heap×σ) (x0:α) (nT:Cl c1 c2 tb e h=true) (hI:I x0=(fc (rA c1 tb) h,s)) (LB:OG c2 tb (I x0).1=true)
  (hf:∀ L,Nx P (DY (sa P T ft Y I ps a b (wo (rA c1 tb) e) c2 tb)) f (.yld::inj bS) [] (.go x0,L) fun v h' g=>h' = []/\match g.1 with
   | .go x=>K .normal ⟨e,fc (sr c1 tb) (I x).1,(I x).2⟩
   | .done ex hd s'=>K ex ⟨e,fc (sr c1 tb) hd,s'⟩):iK P ft Y g ps a b ⟨e,h,s⟩ K:=by
 constructor;intro cx hY r m L F aa w hg hc;simp only[codeOk,Bool.and_eq_true]at hc;obtain⟨⟨DH,Zc⟩,mO⟩:=hc;have DH:∀ p∈ps.toList,p<aa.tmps.size:=fun p hp=>of_decide_eq_true (List.all_eq_true.1 DH p hp);simp only[Cl,Bool.and_eq_true]at nT;obtain⟨⟨⟨⟨⟨⟨⟨⟨k1,k2⟩,k3⟩,k4⟩,k5⟩,k6⟩,k7⟩,k8⟩,k9⟩:=nT;have sx:=gX k1;have RN:∀ i∈tb,i<1000000:=fun i hi=>Nat.le_of_ble_eq_true (ig k2 i hi);have k3:=Nat.le_of_ble_eq_true k3;have k4:=Nat.le_of_ble_eq_true k4;have k5:=Nat.le_of_ble_eq_true k5;have k6:=Nat.le_of_ble_eq_true k6;have k7:∀ k,k<tb.length->br c2 64 (c1+k)=false:=fun k hk=>by
  have:=ig k7 k (List.mem_range.2 hk);simpa using this
 have k8:∀ i∈gO e,i∈tb\/(pinned i/\br c1 tb.length i=false/\br c2 64 i=false):=by
  intro i hi;have:=ig k8 i hi;simp only[Bool.or_eq_true,Bool.and_eq_true,Bool.not_eq_true']at this;exact this.imp il.1 fun h=>⟨⟨Nat.le_of_ble_eq_true h.1.1.1,Nat.le_of_ble_eq_true h.1.1.2⟩,h.1.2,h.2⟩
 have k9:∀ i∈cX h,br c1 tb.length i=false:=fun i hi=>by simpa using ig k9 i hi
 have Vd:∀ i∈tb,br c1 tb.length i=false:=fun i hi=>by
  cases hr:br c1 tb.length i with
  | false=>rfl
  | true=>rw[fY]at hr;have:=RN i hi;omega
 have Q6:∀ i,br c1 tb.length i=false->sr c1 tb (rA c1 tb i)=i:=by
  intro i hi;by_cases hm:i∈tb
  ·obtain⟨k,hk⟩:=List.mem_iff_getElem?.1 hm
   rw[GH sx hk,Fj hk]
  ·rw[tW hm,wA hi]
 have hud:∀ i,i∉tb->rA c1 tb (sr c1 tb i)=i:=by
  intro i hi
  cases hr:br c1 tb.length i with
  | false=>rw[wA hr,tW hi]
  | true=>
   rw[fY]at hr;obtain⟨k,hk⟩:∃ k,i=c1+k:=⟨i-c1,by omega⟩;obtain⟨y,hy⟩:∃ y,tb[k]?=some y:=⟨_,List.getElem?_eq_getElem (by omega)⟩;rw[hk,Fj hy,GH sx hy]
 have PR:∀ i∈gO e,br c1 tb.length i=false:=fun i hi=>(k8 i hi).elim (Vd i) (fun h=>h.2.1);have hE:∀ i∈gO (wo (rA c1 tb) e),pinned i/\br c2 64 i=false:=by
  have Z4:∀ (e:Env),∀ i∈gO (wo (rA c1 tb) e),∃ j∈gO e,i=rA c1 tb j:=by
   intro e
   induction e with
   | nil=>intro i hi;cases hi
   | cons kv r ih=>
    obtain⟨k,v⟩:=kv;intro i hi;rcases List.mem_append.1 hi with hi|hi
    ·obtain⟨j,hj,rfl⟩:=vE v i hi
     exact⟨j,List.mem_append.2 (.inl hj),rfl⟩
    ·obtain⟨j,hj,rfl⟩:=ih i hi
     exact⟨j,List.mem_append.2 (.inr hj),rfl⟩
  intro i hi;obtain⟨j,hj,rfl⟩:=Z4 e i hi;rcases k8 j hj with hm|⟨h1,h2,h3⟩
  ·obtain⟨k,hk⟩:=List.mem_iff_getElem?.1 hm
   have dN:=(List.getElem?_eq_some_iff.1 hk).1;rw[GH sx hk];exact⟨by unfold pinned;omega,k7 k dN⟩
  ·have:j∉tb:=fun hm=>by have:=RN j hm;unfold pinned at h1;omega
   rw[tW this];exact⟨h1,h3⟩
 obtain⟨lc,dC,j7⟩:=hg.aS UO;have hI1:(I x0).1=fc (rA c1 tb) h:=by rw[hI]
 have JT:(I x0).2=s:=by rw[hI]
 refine wpIn_rangeFunc fun fn _=>?_;have enter:∃ (base:Go.Loop) (l:Nat) (mk:List Nat) (W1:World),(Instr.enterLoop fn aa.tmps ps a b r).run P w = .ok (l,mk.map mark) W1/\(base.params=ps/\base.assign=a/\base.body=b/\base.tmps=aa.tmps/\base.state = .ready/\base.pending=none) /\
   W1.heap[l]?=some (.loop base)/\w.heap.size<=l/\(∀ x,x<w.heap.size->W1.heap[x]?=w.heap[x]?)/\Tr F w F W1/\w.heap.size<=W1.heap.size/\mk.Nodup /\ ∀ x∈mk,w.heap.size<=x/\W1.heap[x]?=some (.deferred (some [])):=by
  cases r with
  | none=>
   refine⟨{ state:=.ready,pending:=none,fn,tmps:=aa.tmps,params:=ps,assign:=a,body:=b,defers:=w.heap.size },_,[w.heap.size],_,run_enterLoop_outer fn aa.tmps ps a b,⟨rfl,rfl,rfl,rfl,rfl,rfl⟩,?_,by omega,fun x hx=>?_,Tr.trans (Tr.alloc hg.heap.fresh _) (Tr.alloc (fun b hb=>hg.heap.fresh b (by simp at hb;omega)) _),by simp;omega,by simp,fun x hx=>?_⟩
   ·have:=World.alloc_heap_new (w.alloc (.deferred (some []))) (.loop { state:=.ready,pending:=none,fn,tmps:=aa.tmps,params:=ps,assign:=a,body:=b,defers:=w.heap.size })
    rwa [World.size_alloc]at this
   ·rw[heap_alloc_old _ _ (by simp;omega),heap_alloc_old _ _ hx]
   ·rw[List.mem_singleton]at hx
    subst hx;exact⟨Nat.le_refl _,by rw[heap_alloc_old _ _ (by simp)];exact World.alloc_heap_new w _⟩
  | some l0=>
   obtain⟨lp,⟨q1,_⟩,_⟩:=hg.lk l0 rfl;refine⟨{ state:=.ready,pending:=none,fn,tmps:=aa.tmps,params:=ps,assign:=a,body:=b,defers:=lp.defers },_,[],_,run_enterLoop_inner q1 fn aa.tmps ps a b,⟨rfl,rfl,rfl,rfl,rfl,rfl⟩,World.alloc_heap_new w _,Nat.le_refl _,fun x hx=>heap_alloc_old _ _ hx,Tr.alloc hg.heap.fresh _,by simp,List.nodup_nil,fun x hx=>by cases hx⟩
 obtain⟨base,l,mk,W1,qT,⟨pa,mn,JU,W0,Y5,Y6⟩,hl,hlw,hold,sy,Z9,uF,Xf⟩:=enter;have eo:=hg.Mj sy (fun x hx=>⟨hold x hx,rfl⟩) (fun x hx=>hg.heap.fresh x (Nat.le_trans Z9 hx));have LG:r≠some l:=by
  rintro rfl;obtain⟨lp,⟨q1,_⟩,_⟩:=hg.lk l rfl;have:=cf q1;omega
 let L1:Loc:=⟨fun j=>L.ρ (sr c1 tb j),fun j=>L.κ (sr c1 tb j)⟩
 have YT:∀ i,br c1 tb.length i=false->L1.ρ (rA c1 tb i)=L.ρ i/\L1.κ (rA c1 tb i)=L.κ i:=fun i hi=>by
  show L.ρ (sr c1 tb (rA c1 tb i))=L.ρ i/\L.κ (sr c1 tb (rA c1 tb i))=L.κ i;rw[Q6 i hi];exact⟨rfl,rfl⟩
 have Rl:∀ x,w.heap.size<=x->¬ cx.C s x:=fun x hx hC=>by have:=hg.heap.iw x hC;omega
 have ye:ke base (RS.go x0:RS α σ)=base:=by
  cases base;simp only at Y5 Y6;subst Y5;subst Y6;rfl
 have zF:Qv cx I l (mk++m) r base (wo (rA c1 tb) e) aa.tmps c2 tb L1.ρ L1.κ F W1 (.go x0,L1) W1 F:=by
  refine⟨?_,⟨by rw[ye];exact hl,by show ¬ cx.C (I x0).2 l;rw[JT];exact Rl l hlw⟩,fun x hx=>?_,fun l0 h0=>?_,fun t v ht=>?_,fun _ _=>⟨rfl,rfl⟩,Tr.refl F W1,LB⟩
  ·show aZ cx L1 F (I x0).1 (I x0).2 W1
   rw[hI1,JT];exact eo.heap.o6 fun i hi=>YT i (k9 i hi)
  ·show _/\¬ cx.C (I x0).2 x
   rw[JT];rcases List.mem_append.1 hx with hx|hx
   ·exact⟨(Xf x hx).2,Rl x (Xf x hx).1⟩
   ·exact eo.pg x hx
  ·show ∃ lp,_/\¬ cx.C (I x0).2 l0
   rw[JT];exact eo.lk l0 h0
  ·simp only[wo,bY]at ht
   cases h0:get e t with
   | none=>simp[h0]at ht
   | some v0=>
    simp[h0]at ht;subst ht;obtain⟨x,hx,hr⟩:=eo.env t v0 h0;exact⟨x,hx,(bg.o6 (R:=rA c1 tb) (L:=L) (L':=L1) v0 x fun i hi=>YT i (PR i (jl h0 hi))).2 hr⟩
 have Fq:aZ (gl cx I l (mk++m) r base (wo (rA c1 tb) e) aa.tmps c2 tb L1.ρ L1.κ F W1) L1 F [] (.go x0,L1) W1:=by
  refine⟨zF,fun x hx=>?_,eo.heap.fresh,(fun _ _ h=>by cases h),(fun _ _ h=>by cases h),(fun _ _ _ _ h=>by cases h)⟩;rcases hx with hx|⟨id,o,hi,hb,hx⟩|hx|hx|hx
  ·exact zF.heap.iw x hx
  ·rw[<- hx];exact(zF.heap.obj id o hi).lt hb
  ·rw[hx];exact cf hl
  ·exact cf (zF.pg x hx).1
  ·obtain⟨lp,⟨q1,_⟩,_⟩:=zF.out x hx;exact cf q1
 have ea:=(hf L1).run _ (zT hT QS QT hY LG pa mn JU W0 ⟨Y5,Y6⟩ DH hg.ud Zc mO ⟨k5,k6⟩ hE) L1 F (#[.func (.yield l) #[] #[]]++lc) W1 Fq (by
  show aq (some l) L1 F W1 (.yld::inj bS) _;refine⟨.func (.yield l) #[] #[],lc.toList,by simp,⟨l,rfl,rfl⟩,aq.inj.2 (bc.mono sy bS _ j7)⟩)
 refine⟨l,mk.map mark,W1,{ target:=.fn (.func f) lc,args:=#[.func (.yield l) #[] #[]] },W1,f,#[.func (.yield l) #[] #[]]++lc,W1,qT,?_,fun _ _=>trivial,?_,(fun h=>by cases h),?_⟩
 ·simp only[resolve,dC]
  simp[go_sem]
 ·simp[invoke,go_sem,(hf L1).enter]
 refine(jG ea).mono ?_;rintro en w' ⟨x,rfl,v,h',gs,L',F',⟨rfl,hK⟩,hH,hv,tr,jy⟩;obtain⟨gg,L2⟩:=gs;obtain⟨i1,i2,i3,i4,i5,i6,i7,i8⟩:=hH.hg;have hnb:(ke base gg).state ≠ .busy:=by cases gg<;>(intro h;cases h)
 have yh:=run_endLoop (P:=P) i2.1 hnb;obtain⟨W4,YX⟩:∃ W4,W4=w'.putObj l (.loop { ke base gg with state:=.exhausted }):=⟨_,rfl⟩;rw[<- YX]at yh;have SX:Tr F' w' F' W4:=by rw[YX];exact Tr.XO i2.1 (fun _ _ _ h=>by cases h) (fun _ _ h=>by cases h) (fun _ _ _ h=>by cases h)
 have W8:∀ y,y≠l->W4.heap[y]?=w'.heap[y]?:=fun y hy=>by rw[YX];exact World.putObj_heap_other hy
 have h4:=i1.nA SX (fun b hb=>i1.fresh b (Nat.le_trans SX.size hb)) (fun b hb=>⟨W8 b (by rintro rfl;exact i2.2 hb),rfl⟩) (fun id o hi hb=>⟨W8 _ (fun e=>(cb.tF (i1.obj id o hi) hb (by rw[e];exact i2.1)).1 _ rfl),rfl⟩)
 let L3:Loc:=⟨fun i=>if i∈tb then L2.ρ (rA c1 tb i) else if br c1 tb.length i then cx.pρ i else L2.ρ i,fun i=>if i∈tb then L2.κ (rA c1 tb i) else if br c1 tb.length i then cx.pκ i else L2.κ i⟩
 have YU:∀ i,br c1 tb.length i=false->L3.ρ i=L2.ρ (rA c1 tb i)/\L3.κ i=L2.κ (rA c1 tb i):=by
  intro i hi;by_cases hm:i∈tb
  ·simp[L3,hm]
  ·simp[L3,hm,hi,tW hm]
 have YV:∀ i,i∉tb->L3.ρ (sr c1 tb i)=L2.ρ i/\L3.κ (sr c1 tb i)=L2.κ i:=by
  intro i hi;have:br c1 tb.length (sr c1 tb i)=false:=by
   cases hr:br c1 tb.length i with
   | false=>rw[wA hr];exact hr
   | true=>
    rw[fY]at hr;obtain⟨k,hk⟩:∃ k,i=c1+k:=⟨i-c1,by omega⟩;obtain⟨y,hy⟩:∃ y,tb[k]?=some y:=⟨_,List.getElem?_eq_getElem (by omega)⟩;rw[hk,Fj hy];exact Vd y (List.mem_of_getElem? hy)
  obtain⟨q1,q2⟩:=YU _ this;rw[hud i hi]at q1 q2;exact⟨q1,q2⟩
 have Oc:=tG i8;have AG:Good cx r (mk++m) L3 F' ⟨e,fc (sr c1 tb) (gg.heap I),gg.st I⟩ { aa with defers:=mk.map mark++aa.defers } W4:=by
  refine⟨h4.o6 fun i hi=>YV i (Oc i hi).2,fun t v ht=>?_,?_,fun x hx=>?_,?_,fun l0 h0=>?_,fun i hi=>?_,hg.ud⟩
  ·obtain⟨x,hx,hr⟩:=i5 t (aL (qh (rA c1 tb)) v) (by
    have ht:get e t=some v:=ht;simp only[wo,bY,ht];rfl)
   refine⟨x,hx,bg.mono SX v x (fun _ _=>⟨rfl,rfl⟩) ((bg.o6 (R:=rA c1 tb) (L:=L3) (L':=L2) v x fun i hi=>?_).1 hr)⟩;obtain⟨q1,q2⟩:=YU i (PR i (jl ht hi));exact⟨q1.symm,q2.symm⟩
  ·show mk.map mark++aa.defers=(mk++m).map mark++cx.base
   rw[hg.sR,List.map_append,List.append_assoc]
  ·obtain⟨q1,q2⟩:=i3 x hx
   exact⟨by rw[W8 x (by rintro rfl;rw[i2.1]at q1;cases q1)];exact q1,q2⟩
  ·rw[List.nodup_append]
   refine⟨uF,hg.vD,fun x hx y hy e=>?_⟩;have h1:=(Xf x hx).1;have h2:=cf (hg.pg y hy).1;omega
  ·obtain⟨lp,⟨q1,q2⟩,q3⟩:=i4 l0 h0
   exact⟨lp,⟨by rw[W8 l0 (by rintro rfl;exact LG h0)];exact q1,q2⟩,q3⟩
  ·have hm:i∉tb:=fun hm=>by have:=RN i hm;unfold pinned at hi;omega
   cases hr:br c1 tb.length i with
   | true=>simp[L3,hm,hr]
   | false=>
    obtain⟨q1,q2⟩:=YU i hr;rw[tW hm]at q1 q2;obtain⟨q3,q4⟩:=i6 i hi;have q5:L1.ρ i=L.ρ i/\L1.κ i=L.κ i:=by
     show L.ρ (sr c1 tb i)=L.ρ i/\L.κ (sr c1 tb i)=L.κ i;rw[wA hr];exact⟨rfl,rfl⟩
    obtain⟨q6,q7⟩:=hg.jy i hi;exact⟨q1.trans (q3.trans (q5.1.trans q6)),q2.trans (q4.trans (q5.2.trans q7))⟩
 have Xw:Tr F w F' W4:=Tr.trans sy (Tr.trans tr SX);refine⟨_,W4,yh,?_⟩
 cases gg with
 | go x=>
  exact .inl ⟨.normal,_,mk++m,L3,F',rfl,hK,AG,Xw,rfl⟩
 | done ex hd s'=>
  cases ex with
  | normal=>exact wpIn_skip (.inl ⟨.normal,_,mk++m,L3,F',rfl,hK,AG,Xw,rfl⟩)
  | ret=>exact wpIn_ret (.inl ⟨.ret,_,mk++m,L3,F',rfl,hK,AG,Xw,rfl⟩)
  | exit i=>exact wpIn_exit (.inl ⟨.exit i,_,mk++m,L3,F',rfl,hK,AG,Xw,rfl⟩)
end
end Go.PX
namespace Go.PX
open Go.RowKit
def iterate{γ:Type}(Y:Hd γ):List (List V×Heap)->γ->(γ->Prop)->Prop
 | [],g,Q=>Q g
 | (args,h)::r,g,Q=>Y.y args h g fun v h' g'=>h'=h/\((v = .d (.bool true)/\iterate Y r g' Q)\/(v = .d (.bool false)/\Q g'))
def Yields(P:Program)(f:FuncId)(bS:List D)(l:List (List V×Heap)):Prop:=
 ∀ {γ:Type} (Y:Hd γ) (g:γ) (Q:γ->Prop),iterate Y l g Q->Nx P Y f (.yld::inj bS) [] g fun v h' g'=>h' = []/\Q g'
theorem lP{γ:Type}{Y:Hd γ}:∀ (l:List (List V×Heap)),iterate Y.np l=iterate Y l
 | []=>rfl
 | x::r=>by
  funext g Q
  show(Y.y x.1 x.2 g fun v h' g'=>h'=x.2/\((v = .d (.bool true)/\iterate Y.np r g' Q)\/(v = .d (.bool false)/\Q g')))=_;rw[lP r];rfl
theorem iterate.np{γ:Type}{Y:Hd γ}{l:List (List V×Heap)}{g:γ}{Q:γ->Prop}(h:iterate Y l g Q):iterate Y.np l g Q:=by rw[lP];exact h
section
variable {P : Program} {T : e7} {ft : FT} {α σ : Type} {Y : Hd σ}
def Mm(tb:List Nat)(h:Heap):Heap:=match tb with
 | []=>[]
 | i::r=>match get h i with
  | some o=>(i,o)::Mm r h
  | none=>Mm r h
theorem tJ{h:Heap}{k:Nat}{v:Obj}:∀ {tb:List Nat},get (Mm tb h) k=some v->get h k=some v
 | [],hk=>by cases hk
 | i::r,hk=>by
  rw[Mm]at hk;split at hk
  ·rename_i o ho
   rw[gd]at hk;split at hk
   ·rename_i e
    subst e;rw[ho];exact hk
   ·exact tJ hk
  ·exact tJ hk
def Ji(tb:List Nat)(z:Heap):Heap->Heap
 | []=>z
 | (i,o)::r=>match tb.any fun k=>Nat.beq k i with
  | true=>Ji tb z r
  | false=>(i,o)::Ji tb z r
theorem Ee{tb:List Nat}{z:Heap}{k:Nat}:∀ {h:Heap},get (Ji tb z h) k=if (tb.any fun i=>Nat.beq i k)=true then get z k else (match get h k with
 | some v=>some v
 | none=>get z k)
 | []=>by simp[Ji,get]
 | (i,o)::r=>by
  have ih:=Ee (tb:=tb) (z:=z) (k:=k) (h:=r);rw[Ji];split
  ·rename_i hi
   rw[ih,gd];by_cases hk:(tb.any fun j=>Nat.beq j k)=true
   ·rw[if_pos hk,if_pos hk]
   ·rw[if_neg hk,if_neg hk,if_neg (fun e=>hk (by rw[e];exact hi))]
  ·rename_i hi
   rw[gd,gd];by_cases e:k=i
   ·subst e
    rw[if_pos rfl,if_pos rfl,if_neg (by rw[hi];simp)]
   ·rw[if_neg e,if_neg e,ih]
def Mk(tb:List Nat)(h:Heap):Heap:=Ji tb (Mm tb h) h
theorem Ml{h:Heap}{k:Nat}{v:Obj}{tb:List Nat}(hk:get (Mk tb h) k=some v):get h k=some v:=by
 unfold Mk at hk;rw[Ee]at hk;split at hk
 ·exact tJ hk
 ·split at hk
  ·rename_i he;rw[he];exact hk
  ·exact tJ hk
theorem Wk.ord{e:Env}{h:Heap}{s:σ}(tb:List Nat):Wk (⟨e,h,s⟩:St σ) ⟨e,Mk tb h,s⟩:=
 fun cx r m L F a w hg=>⟨L,F,hg.sub (fun _ _ hv=>hv) (fun _ _ hv=>Ml hv),Tr.refl F w⟩
theorem Bu(hT:bA P T){g:Operand}{ps:Array Tmp}{a b:Code}(QS:dD P T ft a)(QT:dD P T ft b){f:FuncId}{bS:List D}{e:Env}{h:Heap}{s:σ}{K:fg->St σ->Prop}(UO:aS e g=some (.d (.clo f bS)))
  (c1 c2:Nat) (tb:List Nat) {β:Type} {items:List β} {arg:β->List V} {hp:β->Heap} (hf:Yields P f bS (items.map fun b=>(arg b,hp b)))
  (I:α->Heap×σ) (J:List β->α->Prop) (x0:α) (nT:Cl c1 c2 tb e h=true) (hI:I x0=(fc (rA c1 tb) h,s)) (LB:OG c2 tb (I x0).1=true) (YR:J items x0)
  (round:∀ it rest x,J (it::rest) x -> ∀ (Q:V->Heap->RS α σ->Prop),(∀ x',J rest x'->Q (.d (.bool true)) (hp it) (.go x'))->(∀ ex hd s',K ex ⟨e,fc (sr c1 tb) hd,s'⟩->Q (.d (.bool false)) (hp it) (.done ex hd s')) ->
   (sa P T ft Y I ps a b (wo (rA c1 tb) e) c2 tb).y (arg it) (hp it) (.go x) Q)
  (fin:∀ x,J [] x->K .normal ⟨e,fc (sr c1 tb) (I x).1,(I x).2⟩):iK P ft Y g ps a b ⟨e,h,s⟩ K:=by
 refine E4 hT QS QT UO c1 c2 tb I x0 nT hI LB fun L=>hf (DY (sa P T ft Y I ps a b (wo (rA c1 tb) e) c2 tb)) (RS.go x0,L) (fun g=>match g.1 with
   | .go x=>K .normal ⟨e,fc (sr c1 tb) (I x).1,(I x).2⟩
   | .done ex hd s'=>K ex ⟨e,fc (sr c1 tb) hd,s'⟩) ?_
 have key:∀ (l:List β) (x:α) (L:Loc),J l x->iterate (DY (sa P T ft Y I ps a b (wo (rA c1 tb) e) c2 tb)) (l.map fun b=>(arg b,hp b))  (RS.go x,L) (fun g=>match g.1 with
   | .go x=>K .normal ⟨e,fc (sr c1 tb) (I x).1,(I x).2⟩
   | .done ex hd s'=>K ex ⟨e,fc (sr c1 tb) hd,s'⟩):=by
  intro l
  induction l with
  | nil=>exact fun x L hj=>fin x hj
  | cons it rest ih=>
   intro x L hj
   exact round it rest x hj (fun v h' g'=>∀ L',h'=hp it/\((v = .d (.bool true)/\iterate (DY (sa P T ft Y I ps a b (wo (rA c1 tb) e) c2 tb)) (rest.map fun b=>(arg b,hp b)) (g',L') (fun g=>match g.1 with
   | .go x=>K .normal ⟨e,fc (sr c1 tb) (I x).1,(I x).2⟩
   | .done ex hd s'=>K ex ⟨e,fc (sr c1 tb) hd,s'⟩))\/(v = .d (.bool false)/\(match g' with
   | .go x=>K .normal ⟨e,fc (sr c1 tb) (I x).1,(I x).2⟩
   | .done ex hd s'=>K ex ⟨e,fc (sr c1 tb) hd,s'⟩)))) (fun x' DB L'=>⟨rfl,.inl ⟨rfl,ih x' L' DB⟩⟩) (fun ex hd s' hk L'=>⟨rfl,.inr ⟨rfl,hk⟩⟩)
 exact key items x0 L YR
theorem fV(hT:bA P T){g:Operand}{ps:Array Tmp}{a b:Code}(QS:dD P T ft a)(QT:dD P T ft b){f:FuncId}{bS:List D}{e:Env}{h:Heap}{s:σ}{K:fg->St σ->Prop}(UO:aS e g=some (.d (.clo f bS)))
  (c1 c2:Nat) (tb:List Nat) {β:Type} {items:List β} {arg:β->List V} {hp:β->Heap} (hf:Yields P f bS (items.map fun b=>(arg b,hp b)))
  (I:α->Heap×σ) (J:List β->α->Prop) (x0:α) (nT:Cl c1 c2 tb e (Mk tb h)=true) (hI:I x0=(fc (rA c1 tb) (Mk tb h),s)) (LB:OG c2 tb (I x0).1=true) (YR:J items x0)
  (round:∀ it rest x,J (it::rest) x -> ∀ (Q:V->Heap->RS α σ->Prop),(∀ x',J rest x'->Q (.d (.bool true)) (hp it) (.go x'))->(∀ ex hd s',K ex ⟨e,fc (sr c1 tb) hd,s'⟩->Q (.d (.bool false)) (hp it) (.done ex hd s')) ->
   (sa P T ft Y I ps a b (wo (rA c1 tb) e) c2 tb).y (arg it) (hp it) (.go x) Q)
  (fin:∀ x,J [] x->K .normal ⟨e,fc (sr c1 tb) (I x).1,(I x).2⟩):iK P ft Y g ps a b ⟨e,h,s⟩ K:=iK.wk (Wk.ord tb) (Bu hT QS QT UO c1 c2 tb hf I J x0 nT hI LB YR round fin)
end
end Go.PX
namespace Go.PX
theorem aw{α:Type}{l:List α}{f:α->List D}{i:Nat}{x:α}{K:List D->Prop}(hx:l[i]?=some x)(k:K (f x)):Ah (l.map f) (i:Int) K:=
 bh (f x) (by simp[hx]) k
theorem az{g:Nat->Option DO}{v:V}{r:List V}{d:D}{l:List D}(h1:dA g v=some d)(h2:cI g r=some l):cI g (v::r)=some (d::l):=by
 rw[cI,h1,h2]
theorem bH{h:Heap}{k id sz n:Nat}{es:List (List D)}(hg:get h id=some (.arr sz (.dd es)))(hn:n=es.length):dA (ek h (k+1)) (.sl id sz 0 n)=some (.vs es):=by
 have h1:Nat.beq sz sz=true:=Nat.beq_refl sz;have h2:Nat.ble (0+es.length) es.length=true:=Nat.ble_eq_true_of_le (by omega);subst hn;simp only[dA,ek,hg,h1,h2,List.drop_zero,List.take_length]
section
variable {P : Program} {T : e7} {σ : Type} {Y : Hd σ}
theorem Ny{ft:FT}{c:Code}{α:Type}(I:α->St σ)(Pr:α->Prop)(μ:α->Nat)(x0:α){st:St σ}{K:fg->St σ->Prop}(h0:Wk st (I x0))(p0:Pr x0)
  (round:∀ x,Pr x->EW P Y c (I x) fun e st'=>match e with
   | .normal=>∃ y,μ y<μ x/\Pr y/\Wk st' (I y)
   | e=>K e st'):CS P ft Y c st K:=by
 refine⟨EW.wk h0 ?_⟩;intro cx hY r m0 L0 F0 a w hg hc;have hc:codeOk a.tmps.size c=true:=hc
 let J:Act->World->α->Prop:=fun a' w' x=>Pr x /\ ∃ m L F,Good cx r m L F (I x) a' w'/\Tr F0 w F w'/\a'.tmps.size=a.tmps.size
 let M:Act->World->Nat:=fun a' w'=>A5 fun n=>∃ x,J a' w' x/\μ x=n
 refine wpIn_loop (fun a' w'=>∃ x,J a' w' x) M ⟨x0,p0,m0,L0,F0,hg,Tr.refl F0 w,rfl⟩ fun a' w' hJ=>?_;obtain⟨x,⟨hp,m,L,F,dp,tr,hs⟩,hx⟩:=A6 (p:=fun n=>∃ x,J a' w' x/\μ x=n) (by obtain⟨x,hx⟩:=hJ;exact⟨μ x,x,hx,rfl⟩);refine wpIn_mono (round x hp cx hY r m L F a' w' dp (by rw[hs];exact hc)) fun ex Pl wv hq=>?_;rcases hq with⟨e',tR,m1,L1,F1,rfl,h2,h3,h4,h5⟩|P0
 case inr=>
  have Rv:=P0;obtain⟨v,pe,ph,ps,m',L',F',rfl,_⟩:=P0;exact .inr (Rv.trans tr hs)
 cases e' with
 | normal=>
  obtain⟨y,hy,ZX,E2⟩:=h2;obtain⟨L2,F2,gC,Bf⟩:=E2 cx r m1 L1 F1 Pl wv h3;have Us:J Pl wv y:=⟨ZX,m1,L2,F2,gC,Tr.trans tr (Tr.trans h4 Bf),h5.trans hs⟩;refine⟨⟨y,Us⟩,?_⟩;have:M Pl wv<=μ y:=ED ⟨y,Us,rfl⟩;have hx:μ x=M a' w':=hx;omega
 | exit i=>exact .inl ⟨.exit i,tR,m1,L1,F1,rfl,h2,h3,Tr.trans tr h4,h5.trans hs⟩
 | ret=>exact .inl ⟨.ret,tR,m1,L1,F1,rfl,h2,h3,Tr.trans tr h4,h5.trans hs⟩
theorem EW.mono{c:Code}{st:St σ}{K1 K2:fg->St σ->Prop}(hw:EW P Y c st K1)(h:∀ e st,K1 e st->K2 e st):EW P Y c st K2:=by
 intro cx hY r m L F a w hg hc;refine wpIn_mono (hw cx hY r m L F a w hg hc) fun ex a' w' hq=>?_;rcases hq with⟨e',st',m',L',F',h1,h2,h3⟩|hp
 ·exact .inl ⟨e',st',m',L',F',h1,h _ _ h2,h3⟩
 ·exact .inr hp
theorem bx(hT:bA P T){ft:FT}{c:Code}(hD:dD P T ft c){α β:Type}(l:List α)(I:Nat->β->St σ)(J:Nat->List α->β->Prop)(x0:β){st:St σ}{K:fg->St σ->Prop}(h0:Wk st (I 0 x0))(j0:J 0 l x0)
  (round:∀ (i:Nat) (x:α) (r:List α) (acc:β),l[i]?=some x->i<l.length->i+1+r.length=l.length->J i (x::r) acc->Cy P T ft Y c (I i acc) fun e st'=>match e with
   | .normal=>∃ Nz,J (i+1) r Nz/\Wk st' (I (i+1) Nz)
   | e=>K e st')
  (fin:∀ acc,J l.length [] acc->Cy P T ft Y c (I l.length acc) fun e st'=>match e with
   | .normal=>False
   | e=>K e st'):CS P ft Y c st K:=by
 refine Ny (α:=Nat×β) (fun p=>I p.1 p.2) (fun p=>p.1<=l.length/\J p.1 (l.drop p.1) p.2) (fun p=>l.length+1-p.1) (0,x0) h0 ⟨Nat.zero_le _,by simpa using j0⟩ ?_;rintro ⟨i,acc⟩ ⟨hi,hj⟩;simp only at hi hj ⊢;by_cases dN:i<l.length
 ·have hd:l.drop i=l[i]::l.drop (i+1):=List.drop_eq_getElem_cons dN
  rw[hd]at hj;refine EW.mono (dX hT c hD _ _ (round i l[i] (l.drop (i+1)) acc (List.getElem?_eq_getElem dN) dN (by simp;omega) hj)) fun e st' hk=>?_
  cases e with
  | normal=>
   obtain⟨Nz,h1,h2⟩:=hk;exact⟨(i+1,Nz),by simp only;omega,⟨dN,h1⟩,h2⟩
  | exit i=>exact hk
  | ret=>exact hk
 ·have he:i=l.length:=by omega
  subst he;rw[List.drop_length]at hj;refine EW.mono (dX hT c hD _ _ (fin acc hj)) fun e st' hk=>?_
  cases e with
  | normal=>exact hk.elim
  | exit i=>exact hk
  | ret=>exact hk
end
end Go.PX
namespace Go.PX
open Go.RowKit
section
variable {σ : Type}
theorem Wk.Et{e:Env}{h:Heap}{s:σ}(id:Nat){o:Obj}(o':Obj)(hg:get h id=some o)(hr:∀ (yv:Option Nat) (L:Loc) (F:Nat->Nat) (w:World),cb yv L F w id o->cb yv L F w id o')(hb:∀ L,aV L id o'->aV L id o) :
  Wk (⟨e,h,s⟩:St σ) ⟨e,put h id o',s⟩:=by
 intro cx r m L F a w hh;have key:∀ i q,get (put h id o') i=some q->(i=id/\q=o')\/get h i=some q:=by
  intro i q hi;rw[eM]at hi;split at hi
  ·rename_i e1;cases hi;exact .inl ⟨e1,rfl⟩
  ·exact .inr hi
 refine⟨L,F,⟨⟨hh.heap.hg,hh.heap.iw,hh.heap.fresh,fun i q hi=>?_,fun i q hi jn=>?_,fun i j q p hi hj mq jx e=>?_⟩,hh.env,hh.sR,hh.pg,hh.vD,hh.lk,hh.jy,hh.ud⟩,Tr.refl F w⟩
 ·rcases key i q hi with⟨rfl,rfl⟩|hi
  ·exact hr _ _ _ _ (hh.heap.obj i o hg)
  ·exact hh.heap.obj i q hi
 ·rcases key i q hi with⟨rfl,rfl⟩|hi
  ·exact hh.heap.own i o hg (hb L jn)
  ·exact hh.heap.own i q hi jn
 ·rcases key i q hi with⟨e1,e2⟩|wa<;>rcases key j p hj with⟨e3,e4⟩|PT
  ·rw[e1,e3]
  ·subst e1;subst e2
   exact hh.heap.inj _ _ _ _ hg PT (hb L mq) jx e
  ·subst e3;subst e4
   exact hh.heap.inj _ _ _ _ wa hg mq (hb L jx) e
  ·exact hh.heap.inj _ _ _ _ wa PT mq jx e
theorem Wk.shrink{e:Env}{h:Heap}{s:σ}(id n:Nat){sz:Nat}{es:List (List D)}(hg:get h id=some (.arr sz (.dd es))):Wk (⟨e,h,s⟩:St σ) ⟨e,put h id (.arr sz (.dd (es.take n))),s⟩:=by
 refine Wk.Et id _ hg (fun yv L F w h=>?_) fun L hb=>hb;obtain⟨h1,h2,h3⟩:=h;have hlen:dj sz (aG (es.take n)):=by
  intro x hx;rw[bV,List.mem_map]at hx;obtain⟨y,hy,rfl⟩:=hx;exact h2 _ (by rw[show(aK.dd es).bm=aG es from rfl,bV];exact List.mem_map_of_mem (List.mem_of_mem_take hy))
 refine⟨h1,hlen,?_⟩;rcases h3 with⟨h3,h4⟩|⟨c,T,hc,k1,k2,k3⟩
 ·left
  have:es = []:=by
   have:aG es = []:=h3
   cases es with
   | nil=>rfl
   | cons a l=>cases this
  subst this;exact⟨by simp[aK.bm,aG],h4⟩
 ·right
  have e1:(aK.dd es).bm=aG es:=rfl;have e2:(aK.dd (es.take n)).bm=(aG es).take n:=by show aG (es.take n)=_;rw[bV,bV,List.map_take]
  have e3:((aG es).take n).length<=(aG es).length:=by simp;omega
  rw[e1]at k2 k3;refine⟨c,T,hc,k1,?_,?_⟩
  ·rw[e2];exact Nat.le_trans (Nat.mul_le_mul_right _ e3) k2
  ·rw[e2]
   have:=aq.take (((aG es).take n).length*sz) k3;rw[List.take_take]at this;have ZL:min (((aG es).take n).length*sz) ((aG es).length*sz)=((aG es).take n).length*sz:=Nat.min_eq_left (Nat.mul_le_mul_right _ e3);rw[ZL]at this;have hl:dj sz (aG es):=h2;have hf:(aG es).flatten.take (((aG es).take n).length*sz)=((aG es).take n).flatten:=by
    have:=ik (sz:=sz) n hl;rw[this];simp only[List.length_take];by_cases hn:n<=(aG es).length
    ·rw[Nat.min_eq_left hn]
    ·rw[Nat.min_eq_right (by omega),List.take_of_length_le (by rw[jZ hl];exact Nat.le_refl _),List.take_of_length_le (by rw[jZ hl];exact Nat.mul_le_mul_right _ (by omega))]
   rw[hf]at this;exact this
theorem Wk.G7{e:Env}{h:Heap}{s:σ}(b k sz:Nat)(hk:Nat.blt k 1000000=true)(hs:Nat.blt 0 sz=true)(hb:get h b=some (.box (.dd [.nils])))(jn:Nat.beq b k=false) :
  Wk (⟨e,h,s⟩:St σ) ⟨cZ (aL (bf k)) e,put (((k,.arr sz (.dd []))::cZ (Obj.aL (bf k)) (cut h k))) b (.box (.vv [.sl k sz 0 0])),s⟩:=by
 have hk:=Nat.le_of_ble_eq_true hk;have hs:=Nat.le_of_ble_eq_true hs;have eW:b≠k:=by rintro rfl;simp at jn
 have h1:Wk (⟨e,h,s⟩:St σ) ⟨cZ (aL (bf k)) e,((k,.arr sz (.dd []))::cZ (Obj.aL (bf k)) (cut h k)),s⟩:=by
  intro cx r m L F a w hg;exact⟨_,F,hg.kb k sz (by unfold pinned;omega) hs (.dd []) rfl,Tr.refl F w⟩
 refine h1.trans (Wk.Et b (o:=.box (.dd [.nils])) _ (by rw[gd,if_neg eW,bY,e6,if_neg eW,hb];rfl) (fun yv L F w h=>?_) fun L hb=>hb);obtain⟨c,T,hc,x,l',hl,hx,hr⟩:=h;have hx:x = .slice none 0 0:=hx;subst hx;exact⟨c,T,hc,_,l',hl,⟨none,0,rfl,Nat.le_refl _,hs,.inl ⟨rfl,rfl⟩⟩,hr⟩
end
theorem ao{k:IntKind}{n:Int}{K:V->Prop}(m:Int)(h:n=m)(hw:k.wrap m=m)(hK:K (.d (.int k m))):arith k n K:=by subst h;exact ae hw hK
section
variable {P : Program} {T : e7} {σ : Type} {Y : Hd σ}
theorem qv{f:FuncId}{args0:List V}{h0:Heap}{s:σ}{Q:V->Heap->σ->Prop}(hf:Nx P Y f args0 h0 s Q)(tb:List Nat){e:Env}{h:Heap}{d:Option Nat}{args:List V}{K:St σ->Prop}
  (dx:tN (eU tb (d.getD 0)) args0=args) (e8:jr (eU tb (d.getD 0)) h 1000000 tb h0) (sx:nodupB tb=true) (yl:Nat.ble tb.length 1000=true)
  (hq:∀ v h1 s',Q v h1 s'->gG tb d v h1=true/\bw (cL tb d v h1) e h fun e h=>K ⟨e,h,s'⟩):dO P Y ⟨e,h,s⟩ d f args K:=by
 refine Ky hf tb dx e8 sx yl fun v h1 s' hv=>?_;obtain⟨h2,h3⟩:=hq v h1 s' hv;refine⟨h2,?_⟩;rw[cU s']at h3;have hs:(aR (⟨e,h,s'⟩:St σ) (cL tb d v h1)).s=s':=dM _ _;generalize aR (⟨e,h,s'⟩:St σ) (cL tb d v h1)=st at h3 hs;obtain⟨e1,h1,s1⟩:=st;simp only at hs;subst hs;exact h3
end
mutual
def nL:V->V->Prop
 | .d a,.d b=>a=b
 | .agg a,.agg b=>uV a b
 | .tup a,.tup b=>uV a b
 | .clo f a,.clo g b=>f=g/\uV a b
 | .ptr i o,.ptr j p=>Nat.beq i j=true/\o=p
 | .ep i s k o,.ep j t l p=>Nat.beq i j=true/\s=t/\k=l/\o=p
 | .sl i s o n,.sl j t p m=>Nat.beq i j=true/\s=t/\o=p/\n=m
 | .mp i,.mp j=>Nat.beq i j=true
 | .it i,.it j=>Nat.beq i j=true
 | .yld,.yld=>True
 | .unk,.unk=>True
 | _,_=>False
def uV:List V->List V->Prop
 | [],[]=>True
 | a::r,b::s=>nL a b/\uV r s
 | _,_=>False
end
mutual
theorem MN:∀ (a b:V),nL a b->a=b
 | .d a,b,h=>by cases b<;>simp only[nL]at h;rw[h]
 | .agg a,b,h=>by cases b<;>simp only[nL]at h;rw[nM _ _ h]
 | .tup a,b,h=>by cases b<;>simp only[nL]at h;rw[nM _ _ h]
 | .clo f a,b,h=>by cases b<;>simp only[nL]at h;rw[h.1,nM _ _ h.2]
 | .ptr i o,b,h=>by cases b<;>simp only[nL]at h;rw[Nat.eq_of_beq_eq_true h.1,h.2]
 | .ep i s k o,b,h=>by cases b<;>simp only[nL]at h;rw[Nat.eq_of_beq_eq_true h.1,h.2.1,h.2.2.1,h.2.2.2]
 | .sl i s o n,b,h=>by cases b<;>simp only[nL]at h;rw[Nat.eq_of_beq_eq_true h.1,h.2.1,h.2.2.1,h.2.2.2]
 | .mp i,b,h=>by cases b<;>simp only[nL]at h;rw[Nat.eq_of_beq_eq_true h]
 | .it i,b,h=>by cases b<;>simp only[nL]at h;rw[Nat.eq_of_beq_eq_true h]
 | .yld,b,h=>by cases b<;>simp only[nL]at h;rfl
 | .unk,b,h=>by cases b<;>simp only[nL]at h;rfl
theorem nM:∀ (a b:List V),uV a b->a=b
 | [],[],_=>rfl
 | a::r,b::s,h=>by rw[MN a b h.1,nM r s h.2]
 | [],_::_,h=>h.elim
 | _::_,[],h=>h.elim
end
theorem bK{h:Heap}{i:Nat}{l l':List V}(h1:get h i=some (.box (.vv l)))(h2:uV l l'):get h i=some (.box (.vv l')):=by rw[h1,nM l l' h2]
theorem gy{σ:Type}{r:List V}{h:Heap}{s:σ}{Q:V->Heap->σ->Prop}(hr:rD (.d (.vs [])::r) h s Q):rD (.d .nils::r) h s Q:=by
 obtain⟨hr⟩:=hr;refine⟨fun cx L F aT w hh hv=>hr cx L F aT w hh ?_⟩;obtain⟨x,l',rfl,hx,hl⟩:=hv;have hx:x = .slice none 0 0:=hx;subst hx;exact⟨_,l',rfl,⟨none,0,0,rfl,rfl,Nat.le_refl _,fun h=>absurd rfl h⟩,hl⟩
theorem vz{α:Type}{n:Nat}{f:α->List D}(hf:∀ x,Nat.beq (f x).length n=true/\iL (f x)=true):∀ (l:List α),mz n (l.map f)=true
 | []=>rfl
 | x::r=>by
  simp only[List.map_cons,mz,(hf x).1,(hf x).2];exact vz hf r
section
variable {P : Program} {T : e7} {σ : Type} {Y : Hd σ}
theorem dO.Nw{st:St σ}{d:Option Nat}{f:FuncId}{args:List V}{K:St σ->Prop}(h:dO P Y st d f args fun tR=>∃ o7,Wk tR o7/\K o7):dO P Y st d f args K:=by
 obtain⟨h1,h2⟩:=h;refine⟨h1,fun cx hY r m L F a w aT hg hd hr=>(h2 cx hY r m L F a w aT hg hd hr).mono ?_⟩;rintro e w' (⟨x,rfl,st',L',F',⟨o7,hw,hk⟩,dp,tr⟩|hp);case inr=>exact .inr hp
 obtain⟨L2,F2,gC,Bf⟩:=hw cx r m L' F' _ w' dp;exact .inl ⟨x,rfl,o7,L2,F2,hk,gC,Tr.trans tr Bf⟩
end
theorem Good.Tn{σ:Type}{e:Env}{h:Heap}{s:σ}(n:Nat)(ids:List Nat){cx:Cx σ}{r:Option Nat}{m:List Nat}{L:Loc}{F:Nat->Nat}{a:Act}{w:World}(hg:Good cx r m L F ⟨e,h,s⟩ a w) :
  ∃ F1,Good cx r m L F1 ⟨cZ (gx (ek (aX ids h) n)) e,cZ (nI (ek (aX ids h) n)) (mJ h ids),s⟩ a w/\Tr F w F1 w /\ ∀ (vs:List V) (l:List Value),aq cx.yv L F w vs l->aq cx.yv L F1 w (ia (ek (aX ids h) n) vs) l:=by
 have ji:dB (aX ids h) h:=ez ids h;have gh:aZ cx L F (aX ids h) s w:=(hg.sub (e:=e) (h:=aX ids h) (fun _ _ h=>h) ji).heap;have tr:=gz gh;have uy:∀ b,cx.C s b->eZ L F (aX ids h) w b=F b:=fun b hb=>nn gh hb;have yb:∀ id o,get h id=some o->id∉ids->aV L id o->eZ L F (aX ids h) w (L.ρ id)=F (L.ρ id):=by
  intro id o hi hn hb;refine gb ?_;rintro ⟨j,p,hj,jx,mW⟩;have:=hg.heap.inj j id p o (ji j p hj) hi jx hb mW;subst this;exact hn (j9 ids h j p hj)
 have zH:=fm gh;have pc:=oG gh n;generalize eZ L F (aX ids h) w=F1 at tr uy yb zH pc;generalize ek (aX ids h) n=g at pc;have mP:∀ i o',get (cZ (nI g) (mJ h ids)) i=some o'->i∉ids /\ ∃ o0,get h i=some o0/\o'=nI g o0:=by
  intro i o' hi;rw[bY,j5]at hi;split at hi
  ·cases hi
  ·rename_i hn
   cases h0:get h i with
   | none=>simp[h0]at hi
   | some o0=>simp[h0]at hi;exact⟨hn,o0,rfl,hi.symm⟩
 refine⟨F1,⟨⟨cx.fS hg.heap.hg tr zH fun b hb=>⟨rfl,uy b hb⟩,hg.heap.iw,zH,?_,?_,?_⟩,?_,hg.sR,hg.pg,hg.vD,hg.lk,hg.jy,hg.ud⟩,tr,fun vs l hv=>aq.gx tr pc vs l hv⟩
 ·intro i o' hi
  obtain⟨_,o0,h0,rfl⟩:=mP i o' hi;exact cb.gx tr pc i o0 (hg.heap.obj i o0 h0)
 ·intro i o' hi hb
  obtain⟨hn,o0,h0,rfl⟩:=mP i o' hi;have hb:=(iV i o0).1 hb;rw[yb i o0 h0 hn hb];exact hg.heap.own i o0 h0 hb
 ·intro i j o' p hi hj mq jx he
  obtain⟨_,o0,h0,rfl⟩:=mP i o' hi;obtain⟨_,p0,wb,rfl⟩:=mP j p hj;exact hg.heap.inj i j o0 p0 h0 wb ((iV i o0).1 mq) ((iV j p0).1 jx) he
 ·intro t v ht
  simp only[bY]at ht
  cases h0:get e t with
  | none=>simp[h0]at ht
  | some v0=>
   simp[h0]at ht;subst ht;obtain⟨x,hx,hr⟩:=hg.env t v0 h0;exact⟨x,hx,bg.gx tr pc v0 x hr⟩
section
variable {P : Program} {T : e7} {σ : Type} {Y : Hd σ}
theorem Ie(n:Nat)(ids:List Nat){e:Env}{h:Heap}{s:σ}{d:Option Nat}{f:FuncId}{args:List V}{K:St σ->Prop}
  (hc:dO P Y ⟨cZ (gx (ek (aX ids h) n)) e,cZ (nI (ek (aX ids h) n)) (mJ h ids),s⟩ d f (ia (ek (aX ids h) n) args) K):dO P Y ⟨e,h,s⟩ d f args K:=by
 obtain⟨h1,h2⟩:=hc;refine⟨h1,fun cx hY r m L F a w aT hg hd hr=>?_⟩;obtain⟨F1,eo,tr,hv⟩:=hg.Tn n ids;refine(h2 cx hY r m L F1 a w aT eo hd (hv _ _ hr)).mono ?_;rintro en w' (⟨x,rfl,st',L',F',hk,dp,mV⟩|⟨pv,pe,ph,ps,L',F',he,hy,N2,Pb⟩)
 ·exact .inl ⟨x,rfl,st',L',F',hk,dp,Tr.trans tr mV⟩
 ·exact .inr ⟨pv,pe,ph,ps,L',F',he,hy,N2,Tr.trans tr Pb⟩
end
theorem H2{g:Nat->Option DO}{id sz n:Nat}{d:D}(hv:dA g (.sl id sz 0 n)=some d):gx g (.sl id sz 0 n) = .d d:=by
 simp[gx,hv]
theorem dW{h:Heap}{k id sz n:Nat}{es es':List (List D)}(hg:get h id=some (.arr sz (.dd es)))(he:es=es')(hn:n=es'.length):dA (ek h (k+1)) (.sl id sz 0 n)=some (.vs es'):=by
 subst he;exact bH hg hn
end Go.PX
namespace Go.PX
theorem ln{g:Nat->Option DO}:∀ {a:List D} {r:List V} {r':List D},cI g r=some r'->cI g (inj a++r)=some (a++r')
 | [],r,r',h=>h
 | d::a,r,r',h=>by
  show cI g (.d d::(inj a++r))=_;rw[cI,ln h];rfl
theorem Bj{h:Heap}{n id:Nat}{l:List V}{l':List D}(hg:get h id=some (.box (.vv l)))(hl:cI (ek h n) l=some l'):dA (ek h (n+1)) (.ptr id 0)=some (.ref l'):=by
 simp only[dA,ek,hg,hl,List.drop_zero]
theorem tX{h:Heap}{n id:Nat}{cJ:List (D×D)}(hg:get h id=some (.map cJ)):dA (ek h (n+1)) (.mp id)=some (.mv cJ):=by
 simp only[dA,ek,hg]
theorem aq.Cd{yv:Option Nat}{L:Loc}{F:Nat->Nat}{w:World}{B:List V}(k sz:Nat)(hs:0<sz):∀ {A:List V} {l:List Value},aq yv L F w (A ++ .d .nils::B) l->aq yv L F w (A ++ .sl k sz 0 0::B) l
 | [],l,h=>by
  obtain⟨x,l',rfl,hx,hr⟩:=h;have hx:x = .slice none 0 0:=hx;subst hx;exact⟨_,l',rfl,⟨none,0,rfl,Nat.le_refl _,hs,.inl ⟨rfl,rfl⟩⟩,hr⟩
 | a::A,l,h=>by
  obtain⟨x,l',rfl,hx,hr⟩:=h;exact⟨x,l',rfl,hx,aq.Cd k sz hs hr⟩
theorem Wk.Ku{σ:Type}{e:Env}{h:Heap}{s:σ}(b k sz:Nat)(A B:List V)(hk:Nat.blt k 1000000=true)(hs:Nat.blt 0 sz=true)(hb:get (cZ (Obj.aL (bf k)) (cut h k)) b=some (.box (.vv (A ++ .d .nils::B))))(jn:Nat.beq b k=false) :
  Wk (⟨e,h,s⟩:St σ) ⟨cZ (aL (bf k)) e,put (((k,.arr sz (.dd []))::cZ (Obj.aL (bf k)) (cut h k))) b (.box (.vv (A ++ .sl k sz 0 0::B))),s⟩:=by
 have hk:=Nat.le_of_ble_eq_true hk;have hs:=Nat.le_of_ble_eq_true hs;have eW:b≠k:=by rintro rfl;simp at jn
 have h1:Wk (⟨e,h,s⟩:St σ) ⟨cZ (aL (bf k)) e,((k,.arr sz (.dd []))::cZ (Obj.aL (bf k)) (cut h k)),s⟩:=by
  intro cx r m L F a w hg;exact⟨_,F,hg.kb k sz (by unfold pinned;omega) hs (.dd []) rfl,Tr.refl F w⟩
 refine h1.trans (Wk.Et b (o:=.box (.vv (A ++ .d .nils::B))) _ (by rw[gd,if_neg eW];exact hb) (fun yv L F w h=>?_) fun L hb=>hb);obtain⟨c,T,hc,hr⟩:=h;exact⟨c,T,hc,aq.Cd k sz hs hr⟩
end Go.PX
