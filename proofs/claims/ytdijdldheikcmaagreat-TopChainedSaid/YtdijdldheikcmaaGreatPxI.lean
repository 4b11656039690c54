import Derived.Test.YtdijdldheikcmaaGreatPxH
set_option linter.all false
namespace Go.PX
open Go.RowKit
mutual
def gZ:V->Bool
 | .agg cs=>kK cs
 | .tup cs=>kK cs
 | .clo _ cs=>kK cs
 | .yld=>false
 | _=>true
def kK:List V->Bool
 | []=>true
 | v::r=>gZ v&&kK r
end
mutual
theorem aR.gZ{yv Pq:Option Nat}{L:Loc}{F:Nat->Nat}{w:World}:∀ (v:V) (x:Value),PX.gZ v=true->aR yv L F w v x->aR Pq L F w v x
 | .d _,_,_,h=>h
 | .agg cs,x,hy,h=>by
  obtain⟨l,rfl,hl⟩:=h;exact⟨l,rfl,ak.gZ cs _ hy hl⟩
 | .tup cs,x,hy,h=>by
  obtain⟨l,rfl,hl⟩:=h;exact⟨l,rfl,ak.gZ cs _ hy hl⟩
 | .clo f cs,x,hy,h=>by
  obtain⟨l,rfl,hl⟩:=h;exact⟨l,rfl,ak.gZ cs _ hy hl⟩
 | .ptr _ _,_,_,h=>h
 | .ep _ _ _ _,_,_,h=>h
 | .sl _ _ _ _,_,_,h=>h
 | .mp _,_,_,h=>h
 | .it _,_,_,h=>h
 | .yld,_,hy,_=>by cases hy
 | .unk,_,_,h=>h
theorem ak.gZ{yv Pq:Option Nat}{L:Loc}{F:Nat->Nat}{w:World}:∀ (vs:List V) (l:List Value),kK vs=true->ak yv L F w vs l->ak Pq L F w vs l
 | [],_,_,h=>h
 | v::r,l,hy,h=>by
  simp only[kK,Bool.and_eq_true]at hy;obtain⟨x,l',rfl,hx,hl⟩:=h;exact⟨x,l',rfl,aR.gZ v x hy.1 hx,ak.gZ r l' hy.2 hl⟩
end
def Bp:Obj->Bool
 | .box c=>kK c.a5
 | .arr _ es=>kK es.a5.flatten
 | .mit v _ _ _=>gZ v
 | .tb _ l=>kK l
 | _=>true
def x6:ar->Bool
 | []=>true
 | (_,o)::r=>Bp o&&x6 r
theorem nn:∀ {h:ar} {i:Nat} {o:Obj},x6 h=true->get h i=some o->Bp o=true
 | [],i,o,_,h=>by cases h
 | (k,p)::r,i,o,hy,h=>by
  simp only[x6,Bool.and_eq_true]at hy;simp only[get]at h;split at h
  ·cases h;exact hy.1
  ·exact nn hy.2 h
theorem bE.gZ{yv Pq:Option Nat}{L:Loc}{F:Nat->Nat}{w:World}{id:Nat}(o:Obj)(hy:Bp o=true)(h:bE yv L F w id o):bE Pq L F w id o:=by
 cases o with
 | box cs=>
  obtain⟨c,T,hc,hr⟩:=h;exact⟨c,T,hc,ak.gZ _ _ hy hr⟩
 | arr sz es=>
  obtain⟨h1,h2,h3⟩:=h;refine⟨h1,h2,h3.imp (fun h=>h) ?_⟩;rintro ⟨c,T,hc,k1,k2,hr⟩;refine⟨c,T,hc,k1,k2,ak.gZ _ _ hy hr⟩
 | map bT=>exact h
 | iter s n=>exact h
 | buf t s=>exact h
 | tb t l=>
  obtain⟨c,hc,hr⟩:=h;exact⟨c,hc,ak.gZ _ _ hy hr⟩
 | mit v n l u=>
  obtain⟨r,seen,h1,h2⟩:=h;exact⟨r,seen,aR.gZ v _ hy h1,h2⟩
inductive RS(α σ:Type) where
 | go (x:α)
 | done (e:dR) (h:ar) (s:σ)
section
variable {α σ : Type}
def RS.heap(I:α->ar×σ):RS α σ->ar
 | .go x=>(I x).1
 | .done _ h _=>h
def RS.st(I:α->ar×σ):RS α σ->σ
 | .go x=>(I x).2
 | .done _ _ s=>s
def KO:dR->Code
 | .ret=>.ret
 | .exit i=>.exit i
 | .normal=>.skip
def iA(base:Go.Loop):RS α σ->Go.Loop
 | .go _=>{ base with state:=.ready,pending:=none }
 | .done e _ _=>{ base with state:=.done,pending:=some (KO e) }
def sQ(L:Loc)(h:ar)(b:Nat):Prop:=∃ id o,get h id=some o/\aG L id o/\L.ρ id=b
def aX(c n i:Nat):Bool:=Nat.ble c i&&Nat.blt i (c+n)
def uX(p:Nat->Bool):List Nat->Bool
 | []=>true
 | i::r=>p i&&uX p r
theorem fh{p:Nat->Bool}:∀ {l:List Nat},uX p l=true -> ∀ i∈l,p i=true
 | [],_,i,hi=>by cases hi
 | k::r,h,i,hi=>by
  simp only[uX,Bool.and_eq_true]at h;rcases List.mem_cons.1 hi with rfl|hi
  ·exact h.1
  ·exact fh h.2 i hi
def Hz(c:Nat)(tb:List Nat)(h:ar):Bool:=uX (fun i=>!aX c 64 i && !AH tb i) (cf h)
def OR(args:List V)(h:ar):Bool:=uX (aX 1000000 64) (dY args)&&uX (aX 1000000 64) (cf h)&&(kK args&&x6 h)
structure Jh(cx:Cx σ)(I:α->ar×σ)(l:Nat)(m:List Nat)(r:Option Nat)(base:Go.Loop)(e1:Env)(tmps:Array Value)(c:Nat)(tb:List Nat)(pρ pκ:Nat->Nat)(F0:Nat->Nat)(w0:World)(g:RS α σ×Loc)(w:World)(F:Nat->Nat):Prop where
 heap:ba cx g.2 F (g.1.heap I) (g.1.st I) w
 wg:w.heap[l]?=some (.loop (iA base g.1))/\¬ cx.C (g.1.st I) l
 qB:∀ b∈m,w.heap[b]?=some (.deferred (some []))/\¬ cx.C (g.1.st I) b
 out:∀ l0,r=some l0 -> ∃ lp,(w.heap[l0]?=some (.loop lp)/\cx.wg=some lp)/\¬ cx.C (g.1.st I) l0
 env:∀ t v,get e1 t=some v -> ∃ x,tmps[t]?=some x/\aR cx.yv g.2 F w v x
 mB:∀ i,pinned i->g.2.ρ i=pρ i/\g.2.κ i=pκ i
 tr:Tr F0 w0 F w
 ok:Hz c tb (g.1.heap I)=true
def ev(cx:Cx σ)(I:α->ar×σ)(l:Nat)(m:List Nat)(r:Option Nat)(base:Go.Loop)(e1:Env)(tmps:Array Value)(c:Nat)(tb:List Nat)(pρ pκ:Nat->Nat)(F0:Nat->Nat)(w0:World):Cx (RS α σ×Loc) where
 C:=fun g b=>cx.C (g.1.st I) b\/sQ g.2 (g.1.heap I) b\/b=l\/b∈m\/r=some b
 HG:=fun g w F=>Jh cx I l m r base e1 tmps c tb pρ pκ F0 w0 g w F
 yv:=some l
 wg:=none
 pρ:=cx.pρ
 pκ:=cx.pκ
 ff:=by
  intro s w F w' F' h tr hf hk;refine⟨h.heap.Hr tr hf (fun b hb=>hk b (.inl hb)) (fun id o hi hb=>hk _ (.inr (.inl ⟨id,o,hi,hb,rfl⟩))),⟨by rw[(hk l (.inr (.inr (.inl rfl)))).1];exact h.wg.1,h.wg.2⟩,
   fun b hb=>⟨by rw[(hk b (.inr (.inr (.inr (.inl hb))))).1];exact(h.qB b hb).1,(h.qB b hb).2⟩,fun l0 hl=>?_,fun t v ht=>?_,h.mB,Tr.trans h.tr tr,h.ok⟩
  ·obtain⟨lp,⟨k1,k2⟩,k3⟩:=h.out l0 hl
   exact⟨lp,⟨by rw[(hk l0 (.inr (.inr (.inr (.inr hl))))).1];exact k1,k2⟩,k3⟩
  ·obtain⟨x,hx,hr⟩:=h.env t v ht
   exact⟨x,hx,aR.mono tr v x (fun _ _=>⟨rfl,rfl⟩) hr⟩
def zP:List Tmp->List V->Env->Env
 | t::ps,v::vs,e=>zP ps vs (put e t v)
 | _,_,e=>e
def bX(c:Nat)(i:Nat):Nat:=
 match Nat.ble 1000000 i,Nat.blt i 1000064 with
 | true,true=>c+(i-1000000)
 | _,_=>i
noncomputable def oW(P:Program)(T:dJ)(ft:FT)(Y:Hd σ)(I:α->ar×σ)(ps:Array Tmp)(a b:Code)(e1:Env)(c:Nat)(tb:List Nat):Hd (RS α σ) where
 y:=fun args h g Q=>match g with
  | .done _ _ _=>False
  | .go x=>(args.length=ps.size/\OR args h=true)/\Dy P T ft Y.np a ⟨zP ps.toList (oX (bX c) args) e1,(I x).1++dx (bX c) h,(I x).2⟩ fun e st=>match e with
   | .normal=>Dy P T ft Y.np b st fun e dj=>match e with
    | .normal=>∃ x',Wk dj ⟨[],(I x').1++dx (bX c) h,(I x').2⟩/\Hz c tb (I x').1=true/\Q (.d (.bool true)) h (.go x')
    | e=>∃ hd s',Wk dj ⟨[],hd++dx (bX c) h,s'⟩/\Hz c tb hd=true/\Q (.d (.bool false)) h (.done e hd s')
   | _=>False
def zf(Y:Hd (RS α σ)):Hd (RS α σ×Loc) where
 y:=fun args h g Q=>Y.y args h g.1 fun v h' g'=>∀ L',Q v h' (g',L')
theorem ba.append{cx:Cx σ}{L:Loc}{F:Nat->Nat}{h k:ar}{s:σ}{w:World}(hh:ba cx L F h s w)(hk:ba cx L F k s w)
  (hx:∀ i j o p,get h i=some o->get k j=some p->aG L i o->aG L j p->L.ρ i≠L.ρ j):ba cx L F (h++k) s w:=by
 have hg:∀ {h:ar} {i:Nat} {o:Obj},get (h++k) i=some o->get h i=some o\/get k i=some o:=by
  intro h
  induction h with
  | nil=>exact fun h=>.inr h
  | cons a r ih=>
   intro i o h;obtain⟨j,p⟩:=a;simp only[List.cons_append,get]at h ⊢;split at h
   ·exact .inl h
   ·exact ih h
 refine⟨hh.hg,hh.kq,hh.fresh,fun i o hi=>(hg hi).elim (hh.obj i o) (hk.obj i o),fun i o hi=>(hg hi).elim (hh.own i o) (hk.own i o),fun i j o p hi hj hb ky e=>?_⟩;rcases hg hi with hi|hi<;>rcases hg hj with hj|hj
 ·exact hh.inj i j o p hi hj hb ky e
 ·exact absurd e (hx i j o p hi hj hb ky)
 ·exact absurd e.symm (hx j i p o hj hi ky hb)
 ·exact hk.inj i j o p hi hj hb ky e
theorem mr{h k:ar}{i:Nat}{o:Obj}:get h i=some o->get (h++k) i=some o:=by
 induction h with
 | nil=>intro h;cases h
 | cons a r ih=>
  intro h;obtain⟨j,p⟩:=a;simp only[List.cons_append,get]at h ⊢;split at h
  ·exact h
  ·exact ih h
theorem qN{h k:ar}{i:Nat}{o:Obj}:get h i=none->get k i=some o->get (h++k) i=some o:=by
 induction h with
 | nil=>intro _ h;exact h
 | cons a r ih=>
  intro h1 h2;obtain⟨j,p⟩:=a;simp only[List.cons_append,get]at h1 ⊢;split at h1
  ·cases h1
  ·exact ih h1 h2
theorem rD{R:Nat->Nat}:∀ {h:ar} {j:Nat} {o:Obj},(∀ i∈cf h,R i=R j->i=j)->get h j=some o->get (dx R h) (R j)=some (jW R o)
 | [],j,o,_,h=>by cases h
 | (k,p)::r,j,o,hi,h=>by
  simp only[get]at h;simp only[dx,get];split at h
  ·rename_i he
   have:=Nat.eq_of_beq_eq_true he;subst this;cases h;simp
  ·rename_i he
   have:Nat.beq (R k) (R j)=false:=by
    rw[Bool.eq_false_iff];intro e;have:=hi k (by simp[cf]) (Nat.eq_of_beq_eq_true e);subst this;simp at he
   simp only[this];exact rD (fun i h1=>hi i (by simp[cf,h1])) h
theorem cS.np{P:Program}{Y:Hd σ}{cx:Cx σ}(hY:cS P Y cx):cS P Y.np cx:=⟨hY.yld,hY.laid⟩
theorem cS.U3{P:Program}{Y:Hd σ}{cx:Cx σ}(hY:cS P Y cx)(wg:Option Go.Loop)(pρ pκ:Nat->Nat):cS P Y { cx with wg:=wg,pρ:=pρ,pκ:=pκ }:=by
 refine⟨?_,hY.laid⟩;intro l hl args h s Q hy L' F' bh w sa hr;obtain⟨fn,tmps,x8,body,h1,h2⟩:=hY.yld l hl args h s Q hy L' F' bh w ⟨sa.hg,sa.kq,sa.fresh,sa.obj,sa.own,sa.inj⟩ hr;refine⟨fn,tmps,x8,body,h1,h2.mono ?_⟩;rintro e w' ⟨x,he,v,h',s',Je,Ge,hq,kz,rest⟩;exact⟨x,he,v,h',s',Je,Ge,hq,⟨kz.hg,kz.kq,kz.fresh,kz.obj,kz.own,kz.inj⟩,rest⟩
theorem Good.record{cx:Cx σ}{l:Nat}{m:List Nat}{L:Loc}{F:Nat->Nat}{st:St σ}{a:Act}{w:World}(hg:Good cx (some l) m L F st a w)(lp:Go.Loop) :
  Good { cx with wg:=some lp } (some l) m L F st a (w.putObj l (.loop lp))/\Tr F w F (w.putObj l (.loop lp)):=by
 obtain⟨PY,⟨h1,_⟩,h2⟩:=hg.lk l rfl;have tr:Tr F w F (w.putObj l (.loop lp)):=Tr.Qy h1 (fun _ _ _ h=>by cases h) (fun _ _ h=>by cases h) (fun _ _ _ h=>by cases h);have hk:∀ x,x≠l->(w.putObj l (.loop lp)).heap[x]?=w.heap[x]?:=fun x hx=>World.putObj_heap_other hx;have hh:=hg.heap.Hr tr (fun b hb=>hg.heap.fresh b (by simpa using hb)) (fun b hb=>⟨hk b (by rintro rfl;exact h2 hb),rfl⟩) (fun id o hi hb=>⟨hk _ (by
  intro e;exact(bE.qe (hg.heap.obj id o hi) hb (by rw[e];exact h1)).1 PY rfl),rfl⟩)
 refine⟨⟨⟨hh.hg,hh.kq,hh.fresh,hh.obj,hh.own,hh.inj⟩,fun t v ht=>?_,hg.w8,fun b hb=>?_,hg.ye,fun l' hl=>?_,hg.mB,hg.wE⟩,tr⟩
 ·obtain⟨x,hx,hr⟩:=hg.env t v ht
  exact⟨x,hx,aR.mono tr v x (fun _ _=>⟨rfl,rfl⟩) hr⟩
 ·obtain⟨k1,k2⟩:=hg.qB b hb
  exact⟨by rw[hk b (by rintro rfl;rw[h1]at k1;cases k1)];exact k1,k2⟩
 ·cases hl
  exact⟨lp,⟨World.putObj_heap_same (bA h1),rfl⟩,h2⟩
end
end Go.PX
namespace Go.PX
open Go.RowKit
section
variable {P : Program} {T : dJ} {ft : FT} {α σ : Type} {Y : Hd σ} {cx : Cx σ} {I : α -> ar × σ} {l : Nat} {m : List Nat} {r : Option Nat} {base : Go.Loop} {e1 : Env} {tmps : Array Value} {c : Nat} {tb : List Nat} {pρ pκ : Nat -> Nat} {F0 : Nat -> Nat} {w0 : World}
theorem kZ{c i:Nat}(h:aX 1000000 64 i=true):bX c i=c+(i-1000000)/\1000000<=i/\i<1000064:=by
 simp only[aX,Bool.and_eq_true]at h;have h1:=Nat.le_of_ble_eq_true h.1;have h2:i<1000064:=Nat.le_of_ble_eq_true h.2;exact⟨by unfold bX;rw[h.1,show Nat.blt i 1000064=true from h.2],h1,h2⟩
theorem eg{c n i:Nat}:aX c n i=true↔c<=i/\i<c+n:=by
 simp only[aX,Bool.and_eq_true];exact⟨fun h=>⟨Nat.le_of_ble_eq_true h.1,Nat.le_of_ble_eq_true h.2⟩,fun h=>⟨Nat.ble_eq_true_of_le h.1,Nat.ble_eq_true_of_le h.2⟩⟩
def bD(c:Nat)(L L2:Loc):Loc:=⟨fun j=>if aX c 64 j then L2.ρ (1000000+(j-c)) else L.ρ j,fun j=>if aX c 64 j then L2.κ (1000000+(j-c)) else L.κ j⟩
theorem db{L L2:Loc}{j:Nat}(h:aX c 64 j=false):(bD c L L2).ρ j=L.ρ j/\(bD c L L2).κ j=L.κ j:=by
 simp[bD,h]
theorem iB{L L2:Loc}{i:Nat}(h:aX 1000000 64 i=true):(bD c L L2).ρ (bX c i)=L2.ρ i/\(bD c L L2).κ (bX c i)=L2.κ i:=by
 obtain⟨h1,h2,h3⟩:=kZ (c:=c) h;have:aX c 64 (bX c i)=true:=by rw[eg];omega
 have h4:1000000+(bX c i-c)=i:=by omega
 simp[bD,this,h4]
theorem qf{h:ar}(hk:Hz c tb h=true):∀ i∈cf h,aX c 64 i=false/\i∉tb:=by
 intro i hi;have:=fh hk i hi;simp only[Bool.and_eq_true,Bool.not_eq_true']at this;exact⟨this.1,fun hm=>by rw[fG.2 hm]at this;cases this.2⟩
theorem wA:∀ {ps:List Tmp} {vs:List V} {e:Env} {bh:List Value} {t0:Array Value} {yv:Option Nat} {L:Loc} {F:Nat->Nat} {w:World},ps.length=vs.length->(∀ p∈ps,p<t0.size)->ak yv L F w vs bh->(∀ t v,get e t=some v -> ∃ x,t0[t]?=some x/\aR yv L F w v x) ->
  ∀ t v,get (zP ps vs e) t=some v -> ∃ x,((ps.zip bh).foldl (fun tm (p:Tmp×Value)=>tm.setIfInBounds p.1 p.2) t0)[t]?=some x/\aR yv L F w v x
 | [],vs,e,bh,t0,yv,L,F,w,_,_,_,he,t,v,ht=>by
  have:zP [] vs e=e:=by cases vs<;>rfl
  rw[this]at ht;simpa using he t v ht
 | p::ps,[],e,bh,t0,yv,L,F,w,hl,_,_,_,_,_,_=>by cases hl
 | p::ps,v0::vs,e,_,t0,yv,L,F,w,hl,hp,⟨x,l',rfl,hx,hr⟩,he,t,v,ht=>by
  simp only[List.zip_cons_cons,List.foldl_cons];refine wA (ps:=ps) (vs:=vs) (e:=put e p v0) (t0:=t0.setIfInBounds p x) (by simpa using hl) (fun q hq=>by simpa using hp q (List.mem_cons_of_mem _ hq)) hr (fun t' v' PQ=>?_) t v ht;clear ht;rw[dt]at PQ;split at PQ
  ·rename_i e1;cases PQ;rw[e1]
   exact⟨x,by simp[Array.getElem?_setIfInBounds,hp p (List.mem_cons_self ..)],hx⟩
  ·rename_i e1
   obtain⟨y,hy,y5⟩:=he t' v' PQ;exact⟨y,by rw[Array.getElem?_setIfInBounds_ne (Ne.symm e1)];exact hy,y5⟩
theorem oG:∀ (l:List (Tmp×Value)) (t0:Array Value),(l.foldl (fun tm (p:Tmp×Value)=>tm.setIfInBounds p.1 p.2) t0).size=t0.size
 | [],t0=>rfl
 | p::l,t0=>by simp only[List.foldl_cons];rw[oG l];simp
def sI(cx:Cx σ)(s0:σ)(w:World)(F:Nat->Nat)(Own:Nat->Prop)(l:Nat)(wg:Option Go.Loop)(pρ pκ:Nat->Nat):Cx σ:=
 { AL cx s0 w F (fun b=>Own b\/b=l) with wg:=wg,pρ:=pρ,pκ:=pκ }
theorem zC{cx:Cx σ}{I:α->ar×σ}{x:α}{L1:Loc}{w:World}{F:Nat->Nat}(hg:(ev cx I l m r base e1 tmps c tb pρ pκ F0 w0).HG (.go x,L1) w F)(tA:base.state = .ready/\base.pending=none){ps:Array Tmp}
  (Hg:∀ p∈ps.toList,p<tmps.size) (TN:tmps.size<=1000000) (hc:1000000<=c/\c+64<=2000000) (hE:∀ i∈eU e1,pinned i/\aX c 64 i=false) {args:List V} {h:ar} {L2:Loc} {bh:Array Value}
  (hh:ba (ev cx I l m r base e1 tmps c tb pρ pκ F0 w0) L2 F h (.go x,L1) w) (hr:ak (some l) L2 F w args bh.toList) (hlen:args.length=ps.size) (ec:OR args h=true) :
  Good (sI cx (I x).2 w F (sQ (bD c L1 L2) ((I x).1++dx (bX c) h)) l (some base) (bD c L1 L2).ρ (bD c L1 L2).κ) (some l) [] (bD c L1 L2) F
   ⟨zP ps.toList (oX (bX c) args) e1,(I x).1++dx (bX c) h,(I x).2⟩ { tmps:=(ps.zip bh).foldl (fun t (p,v)=>t.setIfInBounds p v) tmps,defers:=[] } w:=by
 obtain⟨i1,i2,i3,i4,i5,i6,i7,i8⟩:=hg;simp only[RS.heap,RS.st]at i1 i2 i3 i4 i8;simp only[OR,Bool.and_eq_true]at ec;obtain⟨⟨hA,hB⟩,PU⟩:=ec;have hA:=fh hA;have hB:=fh hB;have hC:=qf i8;have G2:ba cx L2 F h (I x).2 w:=⟨i1.hg,fun b hb=>hh.kq b (.inl hb),hh.fresh,fun id o hi=>bE.gZ o (nn PU.2 hi) (hh.obj id o hi),fun id o hi hb=>⟨(hh.own id o hi hb).1,fun h=>(hh.own id o hi hb).2 (.inl h)⟩,hh.inj⟩;have Lw:ak cx.yv L2 F w args bh.toList:=ak.gZ _ _ PU.1 hr;have VI:ba cx (bD c L1 L2) F (I x).1 (I x).2 w:=by
  refine⟨i1.hg,i1.kq,i1.fresh,fun id o hi=>?_,fun id o hi hb=>?_,fun i j o p hi hj hb ky e=>?_⟩
  ·obtain⟨n1,n2⟩:=aP hi
   exact bE.mono (Tr.refl F w) id o (fun j hj=>db (hC j (n2 j (dE j o hj))).1) (db (hC id n1).1) (fun _=>rfl) (i1.obj id o hi)
  ·obtain⟨n1,n2⟩:=aP hi
   obtain⟨q1,q2⟩:=db (L:=L1) (L2:=L2) (hC id n1).1;rw[q1];exact i1.own id o hi (dS q2 hb)
  ·obtain⟨n1,_⟩:=aP hi
   obtain⟨n2,_⟩:=aP hj;obtain⟨q1,q2⟩:=db (L:=L1) (L2:=L2) (hC i n1).1;obtain⟨q3,q4⟩:=db (L:=L1) (L2:=L2) (hC j n2).1;rw[q1,q3]at e;exact i1.inj i j o p hi hj (dS q2 hb) (dS q4 ky) e
 have SA:ba cx (bD c L1 L2) F (dx (bX c) h) (I x).2 w:=G2.mC fun i hi=>iB (hB i hi);have Py:=VI.append SA (by
  intro i j o p hi hj hb ky e;obtain⟨n1,_⟩:=aP hi;obtain⟨q1,q2⟩:=db (L:=L1) (L2:=L2) (hC i n1).1;obtain⟨j',p',yQ,rfl,rfl⟩:=jy hj;obtain⟨n2,_⟩:=aP yQ;obtain⟨q3,q4⟩:=iB (c:=c) (L:=L1) (L2:=L2) (hB j' n2);rw[q1,q3]at e;refine(hh.own j' p' yQ ((bP (R:=bX c) (L:=L2) (L':=bD c L1 L2) j' p' q4).1 ky)).2 (.inr (.inl ⟨i,o,hi,dS q2 hb,e⟩)))
 refine⟨⟨⟨i1.hg,Nat.le_refl _,fun b hb hc=>hc,fun b hb hl hc=>⟨rfl,rfl⟩⟩,fun b hb=>hb.elim (i1.kq b) (fun h=>h.1),i1.fresh,Py.obj,fun id o hi hb=>⟨(Py.own id o hi hb).1,fun hC=>hC.elim (Py.own id o hi hb).2 fun hC=>hC.2 (.inl ⟨id,o,hi,hb,rfl⟩)⟩,Py.inj⟩,?_,rfl,(fun b hb=>by cases hb),List.nodup_nil,?_,fun _ _=>⟨rfl,rfl⟩,?_⟩
 ·intro t v ht
  have WD:ak cx.yv (bD c L1 L2) F w (oX (bX c) args) bh.toList:=(ak.mC (R:=bX c) (L:=L2) (L':=bD c L1 L2) args _ fun i hi=>iB (hA i (dD i args hi))).2 Lw;have:=wA (ps:=ps.toList) (t0:=tmps) (by simp[ik,hlen]) Hg WD (fun t v ht=>by
   obtain⟨y,hy,y5⟩:=i5 t v ht;exact⟨y,hy,aR.mono (Tr.refl F w) v y (fun j hj=>db (hE j (gA ht hj)).2) y5⟩) t v ht
  rw[<- Array.foldl_toList,Array.toList_zip];exact this
 ·intro l' hl
  cases hl;have hb:iA base (RS.go x:RS α σ)=base:=by
   obtain⟨h1,h2⟩:=tA;cases base;simp only at h1 h2;subst h1;subst h2;rfl
  rw[hb]at i2;exact⟨base,⟨i2.1,rfl⟩,fun hC=>hC.elim i2.2 fun hC=>hC.2 (.inr rfl)⟩
 ·show((ps.zip bh).foldl (fun t (p,v)=>t.setIfInBounds p v) tmps).size<=1000000
  rw[<- Array.foldl_toList,oG];exact TN
theorem zD{cx:Cx σ}{I:α->ar×σ}{x:α}{L1:Loc}{w:World}{F:Nat->Nat}(hg:(ev cx I l m r base e1 tmps c tb pρ pκ F0 w0).HG (.go x,L1) w F)(Gp:r≠some l)(hc:1000000<=c/\c+64<=2000000)(hE:∀ i∈eU e1,pinned i/\aX c 64 i=false)
  {args:List V} {h:ar} {L2:Loc} (hh:ba (ev cx I l m r base e1 tmps c tb pρ pκ F0 w0) L2 F h (.go x,L1) w) (ec:OR args h=true) {lp:Go.Loop} {m1:List Nat} {L3:Loc} {F3:Nat->Nat} {a:Act} {w3:World} {g:RS α σ} (vQ:iA lp g=iA base g)
  (hd:Good (sI cx (I x).2 w F (sQ (bD c L1 L2) ((I x).1++dx (bX c) h)) l (some lp) (bD c L1 L2).ρ (bD c L1 L2).κ) (some l) m1 L3 F3 ⟨[],g.heap I++dx (bX c) h,g.st I⟩ a w3) (u3:Hz c tb (g.heap I)=true) (tr:Tr F w F3 w3) :
  ∃ L4 L5,ba (ev cx I l m r base e1 tmps c tb pρ pκ F0 w0) L5 F3 h (g,L4) (w3.putObj l (.loop (iA base g)))/\Tr F w F3 (w3.putObj l (.loop (iA base g)))/\sR L2 L5 /\
   (∀ b,b<w.heap.size->¬ (ev cx I l m r base e1 tmps c tb pρ pκ F0 w0).C (.go x,L1) b->¬ (ev cx I l m r base e1 tmps c tb pρ pκ F0 w0).C (g,L4) b) /\
   (∀ b,b<w.heap.size->¬ (ev cx I l m r base e1 tmps c tb pρ pκ F0 w0).C (.go x,L1) b->(∀ id o,get h id=some o->aG L2 id o->L2.ρ id≠b)->(w3.putObj l (.loop (iA base g))).heap[b]?=w.heap[b]?/\F3 b=F b) /\
   (∀ id o,get h id=some o->aG L5 id o->L5.ρ id<w.heap.size -> ∃ lT o',get h lT=some o'/\aG L2 lT o'/\L2.ρ lT=L5.ρ id):=by
 obtain⟨i1,i2,i3,i4,i5,i6,i7,i8⟩:=hg;simp only[RS.heap,RS.st]at i1 i2 i3 i4 i8;simp only[OR,Bool.and_eq_true]at ec;obtain⟨⟨hA,hB⟩,PU⟩:=ec;have hB:=fh hB;have hC:=qf i8;have PA:=qf u3;obtain⟨yL,cM,CM,gV⟩:=hd.heap.hg;obtain⟨WR,⟨k1,k2⟩,k3⟩:=hd.lk l rfl;have k2:some lp=some WR:=k2;cases k2;have Wd:¬ cx.C (g.st I) l:=fun h=>k3 (.inl h);have pd:∀ i,aX c 64 i=true->pinned i:=fun i hi=>by rw[eg]at hi;unfold pinned;omega
 have qA:∀ i,aX 1000000 64 i=true->L3.ρ (bX c i)=L2.ρ i/\L3.κ (bX c i)=L2.κ i:=by
  intro i hi;obtain⟨p1,p2⟩:=hd.mB (bX c i) (by obtain⟨q1,q2,q3⟩:=kZ (c:=c) hi;unfold pinned;omega);obtain⟨p3,p4⟩:=iB (c:=c) (L:=L1) (L2:=L2) hi;exact⟨p1.trans p3,p2.trans p4⟩
 let L4:Loc:=⟨fun j=>if aX c 64 j then L1.ρ j else L3.ρ j,fun j=>if aX c 64 j then L1.κ j else L3.κ j⟩
 have SG:∀ j,aX c 64 j=false->L4.ρ j=L3.ρ j/\L4.κ j=L3.κ j:=fun j hj=>by simp[L4,hj]
 have NO:∀ i,pinned i->L4.ρ i=L1.ρ i/\L4.κ i=L1.κ i:=by
  intro i hi
  cases hr:aX c 64 i with
  | true=>simp[L4,hr]
  | false=>
   obtain⟨p1,p2⟩:=hd.mB i hi;obtain⟨p3,p4⟩:=db (L:=L1) (L2:=L2) hr;obtain⟨p5,p6⟩:=SG i hr;exact⟨p5.trans (p1.trans p3),p6.trans (p2.trans p4)⟩
 have o9:Tr F3 w3 F3 (w3.putObj l (.loop (iA base g))):=Tr.Qy k1 (fun _ _ _ h=>by cases h) (fun _ _ h=>by cases h) (fun _ _ _ h=>by cases h);have hk:∀ y,y≠l->(w3.putObj l (.loop (iA base g))).heap[y]?=w3.heap[y]?:=fun y hy=>World.putObj_heap_other hy;have iZ:∀ id o,get (g.heap I++dx (bX c) h) id=some o->aG L3 id o->L3.ρ id≠l:=fun id o hi hb e=>(bE.qe (hd.heap.obj id o hi) hb (by rw[e];exact k1)).1 _ rfl;have C1:=hd.heap.Hr (F':=F3) o9 (fun b hb=>hd.heap.fresh b (by simpa using hb)) (fun b hb=>⟨hk b (by rintro rfl;exact k3 hb),rfl⟩) (fun id o hi hb=>⟨hk _ (iZ id o hi hb),rfl⟩);obtain⟨SB,_,_,_⟩:=C1.hg;have j7:∀ i o,get (g.heap I) i=some o->get (g.heap I++dx (bX c) h) i=some o:=fun i o hi=>mr hi;have xA:∀ i o,get h i=some o->get (g.heap I++dx (bX c) h) (bX c i)=some (jW (bX c) o):=by
  intro i o hi;obtain⟨n1,_⟩:=aP hi;have DK:get (g.heap I) (bX c i)=none:=by
   cases hq:get (g.heap I) (bX c i) with
   | none=>rfl
   | some o'=>
    have:=(PA _ (aP hq).1).1;obtain⟨q1,q2,q3⟩:=kZ (c:=c) (hB i n1);rw[show aX c 64 (bX c i)=true from by rw[eg];omega]at this;cases this
  refine qN DK (rD (fun j hj e=>?_) hi);obtain⟨q1,q2,q3⟩:=kZ (c:=c) (hB i n1);obtain⟨q4,q5,q6⟩:=kZ (c:=c) (hB j hj);omega
 have GV:∀ i o,get h i=some o->(aG L3 (bX c i) (jW (bX c) o)↔aG L2 i o):=fun i o hi=>bP (R:=bX c) (L:=L2) (L':=L3) i o (qA i (hB i (aP hi).1)).2;have E3:∀ i o,get (g.heap I) i=some o->L4.ρ i=L3.ρ i/\L4.κ i=L3.κ i:=fun i o hi=>SG i (PA i (aP hi).1).1;have EE:∀ b,sQ (bD c L1 L2) ((I x).1++dx (bX c) h) b->sQ L1 (I x).1 b \/ ∃ j p,get h j=some p/\aG L2 j p/\L2.ρ j=b:=by
  rintro b ⟨j,p,hj,kL,e⟩
  cases hq:get (I x).1 j with
  | some p'=>
   have:p'=p:=by
    have:=mr (k:=dx (bX c) h) hq;rw[hj]at this;exact(Option.some.inj this).symm
   subst this;obtain⟨q1,q2⟩:=db (L:=L1) (L2:=L2) (hC j (aP hq).1).1;exact .inl ⟨j,p',hq,dS q2 kL,by rw[<- q1];exact e⟩
  | none=>
   have yQ:get (dx (bX c) h) j=some p:=by
    have S6:∀ (k:ar),get k j=none -> ∀ k',get (k++k') j=get k' j:=by
     intro k
     induction k with
     | nil=>intro _ _;rfl
     | cons kv r ih=>
      obtain⟨u,v⟩:=kv;intro h1 k';simp only[List.cons_append,get]at h1 ⊢;split at h1
      ·cases h1
      ·exact ih h1 k'
    rw[<- S6 _ hq];exact hj
   obtain⟨j',p',Oc,rfl,rfl⟩:=jy yQ;obtain⟨q3,q4⟩:=iB (c:=c) (L:=L1) (L2:=L2) (hB j' (aP Oc).1);exact .inr ⟨j',p',Oc,(bP (R:=bX c) (L:=L2) (L':=bD c L1 L2) j' p' q4).1 kL,by rw[<- q3];exact e⟩
 have yW:∀ i o,get (g.heap I) i=some o->aG L4 i o->¬ cx.C (g.st I) (L3.ρ i)/\F3 (L3.ρ i)=0/\L3.ρ i≠l/\(L3.ρ i<w.heap.size->sQ L1 (I x).1 (L3.ρ i)) /\ ∀ j p,get h j=some p->aG L2 j p->L3.ρ i≠L2.ρ j:=by
  intro i o hi hb;have CO:aG L3 i o:=dS (E3 i o hi).2 hb;obtain⟨p1,p2⟩:=hd.heap.own i o (j7 i o hi) CO;have eX:∀ j p,get h j=some p->aG L2 j p->L3.ρ i≠L2.ρ j:=by
   intro j p hj kL e;obtain⟨n1,_⟩:=aP hj;have:=hd.heap.inj i (bX c j) o _ (j7 i o hi) (xA j p hj) CO ((GV j p hj).2 kL) (by rw[(qA j (hB j n1)).1];exact e);have h1:=(PA i (aP hi).1).1;rw[this]at h1;obtain⟨q1,q2,q3⟩:=kZ (c:=c) (hB j n1);rw[show aX c 64 (bX c j)=true from by rw[eg];omega]at h1;cases h1
  refine⟨fun h=>p2 (.inl h),p1,iZ i o (j7 i o hi) CO,fun dN=>?_,eX⟩;have:sQ (bD c L1 L2) ((I x).1++dx (bX c) h) (L3.ρ i)\/L3.ρ i=l:=Classical.byContradiction fun hn=>p2 (.inr ⟨dN,hn⟩);rcases this with ho|e
  ·rcases EE _ ho with ho|⟨j,p,hj,kL,e⟩
   ·exact ho
   ·exact absurd e.symm (eX j p hj kL)
  ·exact absurd e (iZ i o (j7 i o hi) CO)
 have kX:∀ b,b<w.heap.size->¬ sQ (bD c L1 L2) ((I x).1++dx (bX c) h) b->b≠l->¬ cx.C (I x).2 b->(w3.putObj l (.loop (iA base g))).heap[b]?=w.heap[b]?/\F3 b=F b:=fun b hb ho hl hC=>by
  obtain⟨q1,q2⟩:=gV b hb (fun h=>h.elim ho hl) hC;exact⟨(hk b hl).trans q1,q2⟩
 have N3:∀ b o,w.heap[b]?=some o->((∃ lp,o = .loop lp) \/ ∃ d,o = .deferred d)->¬ sQ (bD c L1 L2) ((I x).1++dx (bX c) h) b:=by
  intro b o hb ho Tt;have:(∀ lp,o ≠ .loop lp)/\(∀ d,o ≠ .deferred d):=by
   rcases EE b Tt with⟨j,p,hj,kL,e⟩|⟨j,p,hj,kL,e⟩
   ·exact bE.qe (i1.obj j p hj) kL (by rw[e];exact hb)
   ·exact bE.qe (hh.obj j p hj) kL (by rw[e];exact hb)
  rcases ho with⟨lp,rfl⟩|⟨d,rfl⟩
  ·exact this.1 _ rfl
  ·exact this.2 _ rfl
 refine⟨L4,L2,?_,Tr.trans tr o9,fun _ _=>⟨rfl,rfl⟩,?_,?_,fun id o hi hb _=>⟨id,o,hi,hb,rfl⟩⟩
 ·have JV:Jh cx I l m r base e1 tmps c tb pρ pκ F0 w0 (g,L4) (w3.putObj l (.loop (iA base g))) F3:=by
   refine⟨⟨SB,fun b hb=>C1.kq b (.inl hb),C1.fresh,fun i o hi=>?_,fun i o hi hb=>?_,fun i j o p hi hj hb ky e=>?_⟩,⟨World.putObj_heap_same (bA k1),Wd⟩,fun b hb=>?_,fun l0 DI=>?_,fun t v ht=>?_,fun i hi=>?_,Tr.trans i7 (Tr.trans tr o9),u3⟩
   ·refine bE.mono (Tr.refl _ _) i o (fun j hj=>SG j (PA j ((aP hi).2 j (dE j o hj))).1) (E3 i o hi) (fun _=>rfl) (C1.obj i o (j7 i o hi))
   ·obtain⟨z1,z2,_⟩:=yW i o hi hb
    show F3 (L4.ρ i)=0/\¬ cx.C (g.st I) (L4.ρ i);rw[(E3 i o hi).1];exact⟨z2,z1⟩
   ·have e:L4.ρ i=L4.ρ j:=e
    rw[(E3 i o hi).1,(E3 j p hj).1]at e;exact hd.heap.inj i j o p (j7 i o hi) (j7 j p hj) (dS (E3 i o hi).2 hb) (dS (E3 j p hj).2 ky) e
   ·obtain⟨z1,z2⟩:=i3 b hb
    have dN:=bA z1;have GV:b≠l:=by rintro rfl;rw[i2.1]at z1;cases z1
    exact⟨by rw[(kX b dN (N3 b _ z1 (.inr ⟨_,rfl⟩)) GV z2).1];exact z1,CM b dN z2⟩
   ·obtain⟨PY,⟨z1,z0⟩,z2⟩:=i4 l0 DI
    have dN:=bA z1;have GV:l0≠l:=by rintro rfl;exact Gp DI
    exact⟨PY,⟨by rw[(kX l0 dN (N3 l0 _ z1 (.inl ⟨_,rfl⟩)) GV z2).1];exact z1,z0⟩,CM l0 dN z2⟩
   ·obtain⟨y,hy,y5⟩:=i5 t v ht
    exact⟨y,hy,aR.mono (Tr.trans tr o9) v y (fun j hj=>NO j (hE j (gA ht hj)).1) y5⟩
   ·obtain⟨p1,p2⟩:=NO i hi
    obtain⟨p3,p4⟩:=i6 i hi;exact⟨p1.trans p3,p2.trans p4⟩
  refine⟨JV,fun b hb=>?_,C1.fresh,fun i o hi=>?_,fun i o hi hb=>?_,fun i j o p hi hj hb ky e=>hh.inj i j o p hi hj hb ky e⟩
  ·rcases hb with hb|⟨id,o,hi,hb,e⟩|rfl|hb|hb
   ·exact C1.kq b (.inl hb)
   ·have dN:=(hd.heap.obj id o (j7 id o hi)).lt (dS (E3 id o hi).2 hb)
    have e:L4.ρ id=b:=e;rw[(E3 id o hi).1]at e;rw[<- e];simpa using dN
   ·simpa using bA k1
   ·exact bA (JV.qB b hb).1
   ·obtain⟨PY,⟨z1,_⟩,_⟩:=JV.out b hb
    exact bA z1
  ·have h1:=C1.obj _ _ (xA i o hi)
   have h2:=(bE.mC (R:=bX c) (L:=L2) (L':=L3) i o (fun j hj=>qA j (hB j ((aP hi).2 j (dE j o hj)))) (qA i (hB i (aP hi).1))).1 h1;exact bE.gZ o (nn PU.2 hi) h2
  ·have CO:=(GV i o hi).2 hb
   obtain⟨z1,z2⟩:=hd.heap.own _ _ (xA i o hi) CO;have hp:=(qA i (hB i (aP hi).1)).1;rw[hp]at z1 z2;refine⟨z1,?_⟩;rintro (EB|⟨id,o',DG,ky,e⟩|e|hm|hm)
   ·exact z2 (.inl EB)
   ·obtain⟨_,_,_,_,z⟩:=yW id o' DG ky
    have e:L4.ρ id=L2.ρ i:=e;rw[(E3 id o' DG).1]at e;exact z i o hi hb e
   ·exact iZ _ _ (xA i o hi) CO (by rw[hp];exact e)
   ·exact(hh.own i o hi hb).2 (.inr (.inr (.inr (.inl hm))))
   ·exact(hh.own i o hi hb).2 (.inr (.inr (.inr (.inr hm))))
 ·intro b hb hC EB
  rcases EB with EB|⟨id,o',DG,ky,e⟩|e|hm|hm
  ·exact CM b hb (fun h=>hC (.inl h)) EB
  ·obtain⟨_,_,_,z,_⟩:=yW id o' DG ky
   have e:L4.ρ id=b:=e;rw[(E3 id o' DG).1]at e;rw[e]at z;exact hC (.inr (.inl (z hb)))
  ·exact hC (.inr (.inr (.inl e)))
  ·exact hC (.inr (.inr (.inr (.inl hm))))
  ·exact hC (.inr (.inr (.inr (.inr hm))))
 ·intro b hb hC PN
  refine kX b hb ?_ (fun e=>hC (.inr (.inr (.inl e)))) (fun h=>hC (.inl h));intro Tt;rcases EE b Tt with ho|⟨j,p,hj,kL,e⟩
  ·exact hC (.inr (.inl ho))
  ·exact PN j p hj kL e
end
section
variable {P : Program} {T : dJ} {ft : FT} {α σ : Type} {Y : Hd σ} {cx : Cx σ} {I : α -> ar × σ} {l : Nat} {m : List Nat} {r : Option Nat} {base : Go.Loop} {e1 : Env} {tmps : Array Value} {c : Nat} {tb : List Nat} {pρ pκ : Nat -> Nat} {F0 : Nat -> Nat} {w0 : World}
theorem vg(hT:aY P T){ps:Array Tmp}{a b:Code}(JT:cE P T ft a)(JU:cE P T ft b)(hY:cS P Y cx)(Gp:r≠some l)
  (nY:base.params=ps) (uR:base.assign=a) (CO:base.body=b) (SM:base.tmps=tmps) (tA:base.state = .ready/\base.pending=none)
  (Hg:∀ p∈ps.toList,p<tmps.size) (TN:tmps.size<=1000000) (SQ:codeOk tmps.size a=true) (SR:codeOk tmps.size b=true) (hc:1000000<=c/\c+64<=2000000) (hE:∀ i∈eU e1,pinned i/\aX c 64 i=false) :
  cS P (zf (oW P T ft Y I ps a b e1 c tb)) (ev cx I l m r base e1 tmps c tb pρ pκ F0 w0):=by
 refine⟨?_,fun s w F hh=>hY.laid _ w F hh.heap.hg⟩;intro l' hl args h s Q hy L2 F bh w hh hr;cases hl;obtain⟨g,L1⟩:=s
 cases g with
 | done e hd s=>exact hy.elim
 | go x=>
  obtain⟨⟨hlen,ec⟩,hy⟩:=hy;have yL:=hh.hg;have hi:=yL.wg.1;have EV:iA base (RS.go x:RS α σ)=base:=by
   obtain⟨h1,h2⟩:=tA;cases base;simp only at h1 h2;subst h1;subst h2;rfl
  have hi:w.heap[l]?=some (.loop base):=by rw[<- EV];exact hi
  have C3:bh.size=base.params.size:=by
   have:=hr.length;rw[nY,<- hlen];simpa using this
  refine⟨base.fn,_,base.assign,base.body,run_yield hi C3,?_⟩;refine roundIn_of_wpIn (F:=Fence.wide) trivial ?_;have hg:=zC yL tA Hg TN hc hE hh hr hlen ec;have Ux:cS P Y (sI cx (I x).2 w F (sQ (bD c L1 L2) ((I x).1++dx (bX c) h)) l (some base) (bD c L1 L2).ρ (bD c L1 L2).κ):=(mT hY).U3 _ _ _;have cM:((ps.zip bh).foldl (fun t (p,v)=>t.setIfInBounds p v) tmps).size=tmps.size:=by rw[<- Array.foldl_toList,oG]
  rw[nY,uR,CO,SM];have hA:=cU hT a JT _ _ hy _ Ux.np (some l) [] _ F _ w hg (by rw[cM];exact SQ);refine wpIn_mono hA fun ex a1 w1 hq=>?_;rcases hq with⟨e',xV,m1,L3,F3,rfl,hk,g9,yf,uU⟩|⟨_,_,_,_,_,_,_,_,hp,_⟩
  case inr=>exact hp.elim
  cases e' with
  | exit i=>exact hk.elim
  | ret=>exact hk.elim
  | normal=>
   obtain⟨lp,⟨q1,q2⟩,_⟩:=g9.lk l rfl;have q2:some base=some lp:=q2;cases q2;refine⟨_,run_beginRound q1 tA.1,?_⟩;obtain⟨lQ,DN⟩:=g9.record { base with state:=.busy };have SJ:cS P Y { sI cx (I x).2 w F (sQ (bD c L1 L2) ((I x).1++dx (bX c) h)) l (some base) (bD c L1 L2).ρ (bD c L1 L2).κ with wg:=some { base with state:=.busy } }:=Ux.U3 (some { base with state:=.busy }) _ _;have hB:=cU hT b JU _ _ hk _ SJ.np (some l) m1 L3 F3 _ _ lQ (by rw[uU];show codeOk (Array.size _) b=true;rw[cM];exact SR);refine wpIn_mono hB fun ex a2 w2 hq=>?_;rcases hq with⟨Qz,ri,m2,L4,F4,rfl,ji,S5,W6,Xr⟩|⟨_,_,_,_,_,_,_,_,hp,_⟩
   case inr=>exact hp.elim
   have W7:Tr F w F4 w2:=Tr.trans yf (Tr.trans DN W6);have fin:∀ (g:RS α σ) (zb:Option Code) (v:Bool),iA base g={ base with state:=if zb.isNone then .ready else .done,pending:=zb }->v=zb.isNone->Wk ri ⟨[],g.heap I++dx (bX c) h,g.st I⟩->Hz c tb (g.heap I)=true ->
     (∀ L',Q (.d (.bool v)) h (g,L')) -> ∃ u w',(Instr.endRound l zb).run P w2 = .ok u w' /\ ∃ U4,Ending.returned u = .returned U4 /\ ∃ v h' s' L' F',Q v h' s'/\ba (ev cx I l m r base e1 tmps c tb pρ pκ F0 w0) L' F' h' s' w' /\
      aR (ev cx I l m r base e1 tmps c tb pρ pκ F0 w0).yv L' F' w' v U4/\Tr F w F' w'/\sR L2 L' /\
      (∀ b,b<w.heap.size->¬ (ev cx I l m r base e1 tmps c tb pρ pκ F0 w0).C (.go x,L1) b->¬ (ev cx I l m r base e1 tmps c tb pρ pκ F0 w0).C s' b) /\
      (∀ b,b<w.heap.size->¬ (ev cx I l m r base e1 tmps c tb pρ pκ F0 w0).C (.go x,L1) b->(∀ id o,get h id=some o->aG L2 id o->L2.ρ id≠b)->w'.heap[b]?=w.heap[b]?/\F' b=F b) /\
      (∀ id o,get h' id=some o->aG L' id o->L'.ρ id<w.heap.size -> ∃ lT o',get h lT=some o'/\aG L2 lT o'/\L2.ρ lT=L'.ρ id):=by
    intro g zb v EV hv E2 u3 hQ;obtain⟨L5,F5,UC,LB⟩:=E2 _ _ _ _ _ _ _ S5;obtain⟨lp,⟨q3,q4⟩,_⟩:=UC.lk l rfl;have q4:some ({ base with state:=.busy }:Go.Loop)=some lp:=q4;cases q4;have pU:=run_endRound (P:=P) zb q3;have heq:({ ({ base with state:=.busy }:Go.Loop) with state:=if zb.isNone then .ready else .done,pending:=zb }:Go.Loop)=iA base g:=EV.symm;obtain⟨L6,L7,z1,z2,z3,z4,z5,z6⟩:=zD yL Gp hc hE hh ec (g:=g) (by cases g<;>rfl) UC u3 (Tr.trans W7 LB);rw[heq]at pU;exact⟨_,_,pU,_,rfl,_,h,(g,L6),L7,F5,hQ L6,z1,by rw[hv];exact rfl,z2,z3,z4,z5,z6⟩
   cases Qz with
   | normal=>
    obtain⟨x',E2,u3,hQ⟩:=ji;exact fin (.go x') none true rfl rfl E2 u3 hQ
   | ret=>
    obtain⟨hd,s',E2,u3,hQ⟩:=ji;exact fin (.done .ret hd s') (some .ret) false rfl rfl E2 u3 hQ
   | exit i=>
    obtain⟨hd,s',E2,u3,hQ⟩:=ji;exact fin (.done (.exit i) hd s') (some (.exit i)) false rfl rfl E2 u3 hQ
end
def xM(c1 c2:Nat)(tb:List Nat)(e:Env)(h:ar):Bool:=
 hX tb&&uX (fun i=>Nat.blt i 1000000) tb&&Nat.ble 1000000 c1&&Nat.ble (c1+tb.length) 2000000&&Nat.ble 1000000 c2&&Nat.ble (c2+64) 2000000&&uX (fun k=>!aX c2 64 (c1+k)) (List.range tb.length) &&
  uX (fun i=>AH tb i||(Nat.ble 1000000 i&&Nat.blt i 2000000 && !aX c1 tb.length i && !aX c2 64 i)) (eU e) &&
  uX (fun i=>!aX c1 tb.length i) (cf h)
section
variable {c1 : Nat} {tb : List Nat}
theorem Ap{k i:Nat}(h:tb[k]?=some i):pc c1 tb (c1+k)=i:=by
 unfold pc;rw[Nat.ble_eq_true_of_le (Nat.le_add_right c1 k),Nat.add_sub_cancel_left,h]
theorem su{i:Nat}(h:aX c1 tb.length i=false):pc c1 tb i=i:=by
 unfold pc;split
 ·rename_i hb
  have hb:=Nat.le_of_ble_eq_true hb;have:tb[i-c1]?=none:=by
   rw[List.getElem?_eq_none_iff];rcases Nat.lt_or_ge (i-c1) tb.length with dN|EJ
   ·rw[show aX c1 tb.length i=true from by rw[eg];omega]at h;cases h
   ·exact EJ
  rw[this]
 ·rfl
theorem Bg{k i:Nat}(hn:tb.Nodup)(h:tb[k]?=some i):ov c1 tb i=c1+k:=by
 unfold ov
 cases hx:idx tb c1 i with
 | none=>exact absurd (List.mem_of_getElem? h) (y8 hx)
 | some j=>
  obtain⟨h1,h2⟩:=tM hx;have:=qX hn h2 h;show j=c1+k;omega
theorem qx{i:Nat}(h:i∉tb):ov c1 tb i=i:=by
 unfold ov
 cases hx:idx tb c1 i with
 | none=>rfl
 | some j=>exact absurd (List.mem_of_getElem? (tM hx).2) h
end
mutual
theorem rM{R:Nat->Nat}:∀ (v:V) (i:Nat),i∈bN (aB (l6 R) v) -> ∃ j∈bN v,i=R j
 | .d _,i,h=>by cases h
 | .agg cs,i,h=>jb cs i h
 | .tup cs,i,h=>jb cs i h
 | .clo _ cs,i,h=>jb cs i h
 | .ptr j _,i,h=>⟨j,by simp[bN],by simpa[aB,l6,bN]using h⟩
 | .ep j _ _ _,i,h=>⟨j,by simp[bN],by simpa[aB,l6,bN]using h⟩
 | .sl j _ _ _,i,h=>⟨j,by simp[bN],by simpa[aB,l6,bN]using h⟩
 | .mp j,i,h=>⟨j,by simp[bN],by simpa[aB,l6,bN]using h⟩
 | .it j,i,h=>⟨j,by simp[bN],by simpa[aB,l6,bN]using h⟩
 | .yld,i,h=>by cases h
 | .unk,i,h=>by cases h
theorem jb{R:Nat->Nat}:∀ (vs:List V) (i:Nat),i∈dY (cr (l6 R) vs) -> ∃ j∈dY vs,i=R j
 | [],i,h=>by cases h
 | v::r,i,h=>by
  rcases List.mem_append.1 (show i∈bN (aB (l6 R) v)++dY (cr (l6 R) r) from h) with h|h
  ·obtain⟨j,hj,rfl⟩:=rM v i h
   exact⟨j,List.mem_append.2 (.inl hj),rfl⟩
  ·obtain⟨j,hj,rfl⟩:=jb r i h
   exact⟨j,List.mem_append.2 (.inr hj),rfl⟩
end
section
variable {P : Program} {T : dJ} {ft : FT} {α σ : Type} {Y : Hd σ}
theorem fI.wk{g:Operand}{ps:Array Tmp}{a b:Code}{st dj:St σ}{K:dR->St σ->Prop}(hw:Wk st dj)(h:fI P ft Y g ps a b dj K):fI P ft Y g ps a b st K:=by
 obtain⟨h⟩:=h;exact⟨x7.wk hw h⟩
theorem Ai(hT:aY P T){g:Operand}{ps:Array Tmp}{a b:Code}(JT:cE P T ft a)(JU:cE P T ft b){f:FuncId}{aM:List D}{e:Env}{h:ar}{s:σ}{K:dR->St σ->Prop}(N9:aD e g=some (.d (.clo f aM)))
  (c1 c2:Nat) (tb:List Nat) (I:α->ar×σ) (x0:α) (oa:xM c1 c2 tb e h=true) (hI:I x0=(dx (ov c1 tb) h,s)) (EU:Hz c2 tb (I x0).1=true)
  (hf:∀ L,DD P (zf (oW P T ft Y I ps a b (sk (ov c1 tb) e) c2 tb)) f (.yld::inj aM) [] (.go x0,L) fun v h' g=>h' = []/\match g.1 with
   | .go x=>K .normal ⟨e,dx (pc c1 tb) (I x).1,(I x).2⟩
   | .done ex hd s'=>K ex ⟨e,dx (pc c1 tb) hd,s'⟩):fI P ft Y g ps a b ⟨e,h,s⟩ K:=by
 constructor;intro cx hY r m L F aa w hg hc;simp only[codeOk,Bool.and_eq_true]at hc;obtain⟨⟨Hg,SQ⟩,SR⟩:=hc;have Hg:∀ p∈ps.toList,p<aa.tmps.size:=fun p hp=>of_decide_eq_true (List.all_eq_true.1 Hg p hp);simp only[xM,Bool.and_eq_true]at oa;obtain⟨⟨⟨⟨⟨⟨⟨⟨k1,k2⟩,k3⟩,k4⟩,k5⟩,k6⟩,k7⟩,k8⟩,k9⟩:=oa;have uV:=gn k1;have KJ:∀ i∈tb,i<1000000:=fun i hi=>Nat.le_of_ble_eq_true (fh k2 i hi);have k3:=Nat.le_of_ble_eq_true k3;have k4:=Nat.le_of_ble_eq_true k4;have k5:=Nat.le_of_ble_eq_true k5;have k6:=Nat.le_of_ble_eq_true k6;have k7:∀ k,k<tb.length->aX c2 64 (c1+k)=false:=fun k hk=>by
  have:=fh k7 k (List.mem_range.2 hk);simpa using this
 have k8:∀ i∈eU e,i∈tb\/(pinned i/\aX c1 tb.length i=false/\aX c2 64 i=false):=by
  intro i hi;have:=fh k8 i hi;simp only[Bool.or_eq_true,Bool.and_eq_true,Bool.not_eq_true']at this;exact this.imp fG.1 fun h=>⟨⟨Nat.le_of_ble_eq_true h.1.1.1,Nat.le_of_ble_eq_true h.1.1.2⟩,h.1.2,h.2⟩
 have k9:∀ i∈cf h,aX c1 tb.length i=false:=fun i hi=>by simpa using fh k9 i hi
 have OB:∀ i∈tb,aX c1 tb.length i=false:=fun i hi=>by
  cases hr:aX c1 tb.length i with
  | false=>rfl
  | true=>rw[eg]at hr;have:=KJ i hi;omega
 have PF:∀ i,aX c1 tb.length i=false->pc c1 tb (ov c1 tb i)=i:=by
  intro i hi;by_cases hm:i∈tb
  ·obtain⟨k,hk⟩:=List.mem_iff_getElem?.1 hm
   rw[Bg uV hk,Ap hk]
  ·rw[qx hm,su hi]
 have WB:∀ i,i∉tb->ov c1 tb (pc c1 tb i)=i:=by
  intro i hi
  cases hr:aX c1 tb.length i with
  | false=>rw[su hr,qx hi]
  | true=>
   rw[eg]at hr;obtain⟨k,hk⟩:∃ k,i=c1+k:=⟨i-c1,by omega⟩;obtain⟨y,hy⟩:∃ y,tb[k]?=some y:=⟨_,List.getElem?_eq_getElem (by omega)⟩;rw[hk,Ap hy,Bg uV hy]
 have IN:∀ i∈eU e,aX c1 tb.length i=false:=fun i hi=>(k8 i hi).elim (OB i) (fun h=>h.2.1);have hE:∀ i∈eU (sk (ov c1 tb) e),pinned i/\aX c2 64 i=false:=by
  have Kx:∀ (e:Env),∀ i∈eU (sk (ov c1 tb) e),∃ j∈eU e,i=ov c1 tb j:=by
   intro e
   induction e with
   | nil=>intro i hi;cases hi
   | cons kv r ih=>
    obtain⟨k,v⟩:=kv;intro i hi;rcases List.mem_append.1 hi with hi|hi
    ·obtain⟨j,hj,rfl⟩:=rM v i hi
     exact⟨j,List.mem_append.2 (.inl hj),rfl⟩
    ·obtain⟨j,hj,rfl⟩:=ih i hi
     exact⟨j,List.mem_append.2 (.inr hj),rfl⟩
  intro i hi;obtain⟨j,hj,rfl⟩:=Kx e i hi;rcases k8 j hj with hm|⟨h1,h2,h3⟩
  ·obtain⟨k,hk⟩:=List.mem_iff_getElem?.1 hm
   have dN:=(List.getElem?_eq_some_iff.1 hk).1;rw[Bg uV hk];exact⟨by unfold pinned;omega,k7 k dN⟩
  ·have:j∉tb:=fun hm=>by have:=KJ j hm;unfold pinned at h1;omega
   rw[qx this];exact⟨h1,h3⟩
 obtain⟨lc,cF,jA⟩:=hg.aD N9;have VJ:(I x0).1=dx (ov c1 tb) h:=by rw[hI]
 have PC:(I x0).2=s:=by rw[hI]
 refine wpIn_rangeFunc fun fn _=>?_;have enter:∃ (base:Go.Loop) (l:Nat) (mk:List Nat) (W1:World),(Instr.enterLoop fn aa.tmps ps a b r).run P w = .ok (l,mk.map mark) W1/\(base.params=ps/\base.assign=a/\base.body=b/\base.tmps=aa.tmps/\base.state = .ready/\base.pending=none) /\
   W1.heap[l]?=some (.loop base)/\w.heap.size<=l/\(∀ x,x<w.heap.size->W1.heap[x]?=w.heap[x]?)/\Tr F w F W1/\w.heap.size<=W1.heap.size/\mk.Nodup /\ ∀ x∈mk,w.heap.size<=x/\W1.heap[x]?=some (.deferred (some [])):=by
  cases r with
  | none=>
   refine⟨{ state:=.ready,pending:=none,fn,tmps:=aa.tmps,params:=ps,assign:=a,body:=b,defers:=w.heap.size },_,[w.heap.size],_,run_enterLoop_outer fn aa.tmps ps a b,⟨rfl,rfl,rfl,rfl,rfl,rfl⟩,?_,by omega,fun x hx=>?_,Tr.trans (Tr.alloc hg.heap.fresh _) (Tr.alloc (fun b hb=>hg.heap.fresh b (by simp at hb;omega)) _),by simp;omega,by simp,fun x hx=>?_⟩
   ·have:=World.alloc_heap_new (w.alloc (.deferred (some []))) (.loop { state:=.ready,pending:=none,fn,tmps:=aa.tmps,params:=ps,assign:=a,body:=b,defers:=w.heap.size })
    rwa [World.size_alloc]at this
   ·rw[heap_alloc_old _ _ (by simp;omega),heap_alloc_old _ _ hx]
   ·rw[List.mem_singleton]at hx
    subst hx;exact⟨Nat.le_refl _,by rw[heap_alloc_old _ _ (by simp)];exact World.alloc_heap_new w _⟩
  | some l0=>
   obtain⟨lp,⟨q1,_⟩,_⟩:=hg.lk l0 rfl;refine⟨{ state:=.ready,pending:=none,fn,tmps:=aa.tmps,params:=ps,assign:=a,body:=b,defers:=lp.defers },_,[],_,run_enterLoop_inner q1 fn aa.tmps ps a b,⟨rfl,rfl,rfl,rfl,rfl,rfl⟩,World.alloc_heap_new w _,Nat.le_refl _,fun x hx=>heap_alloc_old _ _ hx,Tr.alloc hg.heap.fresh _,by simp,List.nodup_nil,fun x hx=>by cases hx⟩
 obtain⟨base,l,mk,W1,nL,⟨nY,uR,CO,SM,SN,SO⟩,hl,Wg,hold,yf,TJ,Kn,Tm⟩:=enter;have g9:=hg.Fh yf (fun x hx=>⟨hold x hx,rfl⟩) (fun x hx=>hg.heap.fresh x (Nat.le_trans TJ hx));have Gp:r≠some l:=by
  rintro rfl;obtain⟨lp,⟨q1,_⟩,_⟩:=hg.lk l rfl;have:=bA q1;omega
 let L1:Loc:=⟨fun j=>L.ρ (pc c1 tb j),fun j=>L.κ (pc c1 tb j)⟩
 have Ut:∀ i,aX c1 tb.length i=false->L1.ρ (ov c1 tb i)=L.ρ i/\L1.κ (ov c1 tb i)=L.κ i:=fun i hi=>by
  show L.ρ (pc c1 tb (ov c1 tb i))=L.ρ i/\L.κ (pc c1 tb (ov c1 tb i))=L.κ i;rw[PF i hi];exact⟨rfl,rfl⟩
 have Kq:∀ x,w.heap.size<=x->¬ cx.C s x:=fun x hx hC=>by have:=hg.heap.kq x hC;omega
 have tA:iA base (RS.go x0:RS α σ)=base:=by
  cases base;simp only at SN SO;subst SN;subst SO;rfl
 have yL:Jh cx I l (mk++m) r base (sk (ov c1 tb) e) aa.tmps c2 tb L1.ρ L1.κ F W1 (.go x0,L1) W1 F:=by
  refine⟨?_,⟨by rw[tA];exact hl,by show ¬ cx.C (I x0).2 l;rw[PC];exact Kq l Wg⟩,fun x hx=>?_,fun l0 h0=>?_,fun t v ht=>?_,fun _ _=>⟨rfl,rfl⟩,Tr.refl F W1,EU⟩
  ·show ba cx L1 F (I x0).1 (I x0).2 W1
   rw[VJ,PC];exact g9.heap.mC fun i hi=>Ut i (k9 i hi)
  ·show _/\¬ cx.C (I x0).2 x
   rw[PC];rcases List.mem_append.1 hx with hx|hx
   ·exact⟨(Tm x hx).2,Kq x (Tm x hx).1⟩
   ·exact g9.qB x hx
  ·show ∃ lp,_/\¬ cx.C (I x0).2 l0
   rw[PC];exact g9.lk l0 h0
  ·simp only[sk,bC]at ht
   cases h0:get e t with
   | none=>simp[h0]at ht
   | some v0=>
    simp[h0]at ht;subst ht;obtain⟨x,hx,hr⟩:=g9.env t v0 h0;exact⟨x,hx,(aR.mC (R:=ov c1 tb) (L:=L) (L':=L1) v0 x fun i hi=>Ut i (IN i (gA h0 hi))).2 hr⟩
 have NM:ba (ev cx I l (mk++m) r base (sk (ov c1 tb) e) aa.tmps c2 tb L1.ρ L1.κ F W1) L1 F [] (.go x0,L1) W1:=by
  refine⟨yL,fun x hx=>?_,g9.heap.fresh,(fun _ _ h=>by cases h),(fun _ _ h=>by cases h),(fun _ _ _ _ h=>by cases h)⟩;rcases hx with hx|⟨id,o,hi,hb,hx⟩|hx|hx|hx
  ·exact yL.heap.kq x hx
  ·rw[<- hx];exact(yL.heap.obj id o hi).lt hb
  ·rw[hx];exact bA hl
  ·exact bA (yL.qB x hx).1
  ·obtain⟨lp,⟨q1,_⟩,_⟩:=yL.out x hx;exact bA q1
 have dn:=(hf L1).run _ (vg hT JT JU hY Gp nY uR CO SM ⟨SN,SO⟩ Hg hg.wE SQ SR ⟨k5,k6⟩ hE) L1 F (#[.func (.yield l) #[] #[]]++lc) W1 NM (by
  show ak (some l) L1 F W1 (.yld::inj aM) _;refine⟨.func (.yield l) #[] #[],lc.toList,by simp,⟨l,rfl,rfl⟩,ak.inj.2 (aN.mono yf aM _ jA)⟩)
 refine⟨l,mk.map mark,W1,{ target:=.fn (.func f) lc,args:=#[.func (.yield l) #[] #[]] },W1,f,#[.func (.yield l) #[] #[]]++lc,W1,nL,?_,fun _ _=>trivial,?_,(fun h=>by cases h),?_⟩
 ·simp only[resolve,cF]
  simp[go_sem]
 ·simp[invoke,go_sem,(hf L1).enter]
 refine(g7 dn).mono ?_;rintro en w' ⟨x,rfl,v,h',gs,L',F',⟨rfl,hK⟩,hH,hv,tr,mB⟩;obtain⟨gg,L2⟩:=gs;obtain⟨i1,i2,i3,i4,i5,i6,i7,i8⟩:=hH.hg;have Wn:(iA base gg).state ≠ .busy:=by cases gg<;>(intro h;cases h)
 have pU:=run_endLoop (P:=P) i2.1 Wn;obtain⟨W4,SI⟩:∃ W4,W4=w'.putObj l (.loop { iA base gg with state:=.exhausted }):=⟨_,rfl⟩;rw[<- SI]at pU;have LB:Tr F' w' F' W4:=by rw[SI];exact Tr.Qy i2.1 (fun _ _ _ h=>by cases h) (fun _ _ h=>by cases h) (fun _ _ _ h=>by cases h)
 have Oe:∀ y,y≠l->W4.heap[y]?=w'.heap[y]?:=fun y hy=>by rw[SI];exact World.putObj_heap_other hy
 have h4:=i1.Hr LB (fun b hb=>i1.fresh b (Nat.le_trans LB.size hb)) (fun b hb=>⟨Oe b (by rintro rfl;exact i2.2 hb),rfl⟩) (fun id o hi hb=>⟨Oe _ (fun e=>(bE.qe (i1.obj id o hi) hb (by rw[e];exact i2.1)).1 _ rfl),rfl⟩)
 let L3:Loc:=⟨fun i=>if i∈tb then L2.ρ (ov c1 tb i) else if aX c1 tb.length i then cx.pρ i else L2.ρ i,fun i=>if i∈tb then L2.κ (ov c1 tb i) else if aX c1 tb.length i then cx.pκ i else L2.κ i⟩
 have SE:∀ i,aX c1 tb.length i=false->L3.ρ i=L2.ρ (ov c1 tb i)/\L3.κ i=L2.κ (ov c1 tb i):=by
  intro i hi;by_cases hm:i∈tb
  ·simp[L3,hm]
  ·simp[L3,hm,hi,qx hm]
 have SF:∀ i,i∉tb->L3.ρ (pc c1 tb i)=L2.ρ i/\L3.κ (pc c1 tb i)=L2.κ i:=by
  intro i hi;have:aX c1 tb.length (pc c1 tb i)=false:=by
   cases hr:aX c1 tb.length i with
   | false=>rw[su hr];exact hr
   | true=>
    rw[eg]at hr;obtain⟨k,hk⟩:∃ k,i=c1+k:=⟨i-c1,by omega⟩;obtain⟨y,hy⟩:∃ y,tb[k]?=some y:=⟨_,List.getElem?_eq_getElem (by omega)⟩;rw[hk,Ap hy];exact OB y (List.mem_of_getElem? hy)
  obtain⟨q1,q2⟩:=SE _ this;rw[WB i hi]at q1 q2;exact⟨q1,q2⟩
 have Ha:=qf i8;have BS:Good cx r (mk++m) L3 F' ⟨e,dx (pc c1 tb) (gg.heap I),gg.st I⟩ { aa with defers:=mk.map mark++aa.defers } W4:=by
  refine⟨h4.mC fun i hi=>SF i (Ha i hi).2,fun t v ht=>?_,?_,fun x hx=>?_,?_,fun l0 h0=>?_,fun i hi=>?_,hg.wE⟩
  ·obtain⟨x,hx,hr⟩:=i5 t (aB (l6 (ov c1 tb)) v) (by
    have ht:get e t=some v:=ht;simp only[sk,bC,ht];rfl)
   refine⟨x,hx,aR.mono LB v x (fun _ _=>⟨rfl,rfl⟩) ((aR.mC (R:=ov c1 tb) (L:=L3) (L':=L2) v x fun i hi=>?_).1 hr)⟩;obtain⟨q1,q2⟩:=SE i (IN i (gA ht hi));exact⟨q1.symm,q2.symm⟩
  ·show mk.map mark++aa.defers=(mk++m).map mark++cx.base
   rw[hg.w8,List.map_append,List.append_assoc]
  ·obtain⟨q1,q2⟩:=i3 x hx
   exact⟨by rw[Oe x (by rintro rfl;rw[i2.1]at q1;cases q1)];exact q1,q2⟩
  ·rw[List.nodup_append]
   refine⟨Kn,hg.ye,fun x hx y hy e=>?_⟩;have h1:=(Tm x hx).1;have h2:=bA (hg.qB y hy).1;omega
  ·obtain⟨lp,⟨q1,q2⟩,q3⟩:=i4 l0 h0
   exact⟨lp,⟨by rw[Oe l0 (by rintro rfl;exact Gp h0)];exact q1,q2⟩,q3⟩
  ·have hm:i∉tb:=fun hm=>by have:=KJ i hm;unfold pinned at hi;omega
   cases hr:aX c1 tb.length i with
   | true=>simp[L3,hm,hr]
   | false=>
    obtain⟨q1,q2⟩:=SE i hr;rw[qx hm]at q1 q2;obtain⟨q3,q4⟩:=i6 i hi;have q5:L1.ρ i=L.ρ i/\L1.κ i=L.κ i:=by
     show L.ρ (pc c1 tb i)=L.ρ i/\L.κ (pc c1 tb i)=L.κ i;rw[su hr];exact⟨rfl,rfl⟩
    obtain⟨q6,q7⟩:=hg.mB i hi;exact⟨q1.trans (q3.trans (q5.1.trans q6)),q2.trans (q4.trans (q5.2.trans q7))⟩
 have P1:Tr F w F' W4:=Tr.trans yf (Tr.trans tr LB);refine⟨_,W4,pU,?_⟩
 cases gg with
 | go x=>
  exact .inl ⟨.normal,_,mk++m,L3,F',rfl,hK,BS,P1,rfl⟩
 | done ex hd s'=>
  cases ex with
  | normal=>exact wpIn_skip (.inl ⟨.normal,_,mk++m,L3,F',rfl,hK,BS,P1,rfl⟩)
  | ret=>exact wpIn_ret (.inl ⟨.ret,_,mk++m,L3,F',rfl,hK,BS,P1,rfl⟩)
  | exit i=>exact wpIn_exit (.inl ⟨.exit i,_,mk++m,L3,F',rfl,hK,BS,P1,rfl⟩)
end
end Go.PX
namespace Go.PX
open Go.RowKit
def iterate{γ:Type}(Y:Hd γ):List (List V×ar)->γ->(γ->Prop)->Prop
 | [],g,Q=>Q g
 | (args,h)::r,g,Q=>Y.y args h g fun v h' g'=>h'=h/\((v = .d (.bool true)/\iterate Y r g' Q)\/(v = .d (.bool false)/\Q g'))
def Yields(P:Program)(f:FuncId)(aM:List D)(l:List (List V×ar)):Prop:=
 ∀ {γ:Type} (Y:Hd γ) (g:γ) (Q:γ->Prop),iterate Y l g Q->DD P Y f (.yld::inj aM) [] g fun v h' g'=>h' = []/\Q g'
theorem tP{γ:Type}{Y:Hd γ}:∀ (l:List (List V×ar)),iterate Y.np l=iterate Y l
 | []=>rfl
 | x::r=>by
  funext g Q
  show(Y.y x.1 x.2 g fun v h' g'=>h'=x.2/\((v = .d (.bool true)/\iterate Y.np r g' Q)\/(v = .d (.bool false)/\Q g')))=_;rw[tP r];rfl
theorem iterate.np{γ:Type}{Y:Hd γ}{l:List (List V×ar)}{g:γ}{Q:γ->Prop}(h:iterate Y l g Q):iterate Y.np l g Q:=by rw[tP];exact h
section
variable {P : Program} {T : dJ} {ft : FT} {α σ : Type} {Y : Hd σ}
def Fl(tb:List Nat)(h:ar):ar:=match tb with
 | []=>[]
 | i::r=>match get h i with
  | some o=>(i,o)::Fl r h
  | none=>Fl r h
theorem qi{h:ar}{k:Nat}{v:Obj}:∀ {tb:List Nat},get (Fl tb h) k=some v->get h k=some v
 | [],hk=>by cases hk
 | i::r,hk=>by
  rw[Fl]at hk;split at hk
  ·rename_i o ho
   rw[eM]at hk;split at hk
   ·rename_i e
    subst e;rw[ho];exact hk
   ·exact qi hk
  ·exact qi hk
def Dc(tb:List Nat)(z:ar):ar->ar
 | []=>z
 | (i,o)::r=>match tb.any fun k=>Nat.beq k i with
  | true=>Dc tb z r
  | false=>(i,o)::Dc tb z r
theorem zq{tb:List Nat}{z:ar}{k:Nat}:∀ {h:ar},get (Dc tb z h) k=if (tb.any fun i=>Nat.beq i k)=true then get z k else (match get h k with
 | some v=>some v
 | none=>get z k)
 | []=>by simp[Dc,get]
 | (i,o)::r=>by
  have ih:=zq (tb:=tb) (z:=z) (k:=k) (h:=r);rw[Dc];split
  ·rename_i hi
   rw[ih,eM];by_cases hk:(tb.any fun j=>Nat.beq j k)=true
   ·rw[if_pos hk,if_pos hk]
   ·rw[if_neg hk,if_neg hk,if_neg (fun e=>hk (by rw[e];exact hi))]
  ·rename_i hi
   rw[eM,eM];by_cases e:k=i
   ·subst e
    rw[if_pos rfl,if_pos rfl,if_neg (by rw[hi];simp)]
   ·rw[if_neg e,if_neg e,ih]
def Fj(tb:List Nat)(h:ar):ar:=Dc tb (Fl tb h) h
theorem Fk{h:ar}{k:Nat}{v:Obj}{tb:List Nat}(hk:get (Fj tb h) k=some v):get h k=some v:=by
 unfold Fj at hk;rw[zq]at hk;split at hk
 ·exact qi hk
 ·split at hk
  ·rename_i he;rw[he];exact hk
  ·exact qi hk
theorem Wk.ord{e:Env}{h:ar}{s:σ}(tb:List Nat):Wk (⟨e,h,s⟩:St σ) ⟨e,Fj tb h,s⟩:=
 fun cx r m L F a w hg=>⟨L,F,hg.sub (fun _ _ hv=>hv) (fun _ _ hv=>Fk hv),Tr.refl F w⟩
theorem wP(hT:aY P T){g:Operand}{ps:Array Tmp}{a b:Code}(JT:cE P T ft a)(JU:cE P T ft b){f:FuncId}{aM:List D}{e:Env}{h:ar}{s:σ}{K:dR->St σ->Prop}(N9:aD e g=some (.d (.clo f aM)))
  (c1 c2:Nat) (tb:List Nat) {β:Type} {items:List β} {arg:β->List V} {hp:β->ar} (hf:Yields P f aM (items.map fun b=>(arg b,hp b)))
  (I:α->ar×σ) (J:List β->α->Prop) (x0:α) (oa:xM c1 c2 tb e h=true) (hI:I x0=(dx (ov c1 tb) h,s)) (EU:Hz c2 tb (I x0).1=true) (SC:J items x0)
  (round:∀ it rest x,J (it::rest) x -> ∀ (Q:V->ar->RS α σ->Prop),(∀ x',J rest x'->Q (.d (.bool true)) (hp it) (.go x'))->(∀ ex hd s',K ex ⟨e,dx (pc c1 tb) hd,s'⟩->Q (.d (.bool false)) (hp it) (.done ex hd s')) ->
   (oW P T ft Y I ps a b (sk (ov c1 tb) e) c2 tb).y (arg it) (hp it) (.go x) Q)
  (fin:∀ x,J [] x->K .normal ⟨e,dx (pc c1 tb) (I x).1,(I x).2⟩):fI P ft Y g ps a b ⟨e,h,s⟩ K:=by
 refine Ai hT JT JU N9 c1 c2 tb I x0 oa hI EU fun L=>hf (zf (oW P T ft Y I ps a b (sk (ov c1 tb) e) c2 tb)) (RS.go x0,L) (fun g=>match g.1 with
   | .go x=>K .normal ⟨e,dx (pc c1 tb) (I x).1,(I x).2⟩
   | .done ex hd s'=>K ex ⟨e,dx (pc c1 tb) hd,s'⟩) ?_
 have key:∀ (l:List β) (x:α) (L:Loc),J l x->iterate (zf (oW P T ft Y I ps a b (sk (ov c1 tb) e) c2 tb)) (l.map fun b=>(arg b,hp b))  (RS.go x,L) (fun g=>match g.1 with
   | .go x=>K .normal ⟨e,dx (pc c1 tb) (I x).1,(I x).2⟩
   | .done ex hd s'=>K ex ⟨e,dx (pc c1 tb) hd,s'⟩):=by
  intro l
  induction l with
  | nil=>exact fun x L hj=>fin x hj
  | cons it rest ih=>
   intro x L hj
   exact round it rest x hj (fun v h' g'=>∀ L',h'=hp it/\((v = .d (.bool true)/\iterate (zf (oW P T ft Y I ps a b (sk (ov c1 tb) e) c2 tb)) (rest.map fun b=>(arg b,hp b)) (g',L') (fun g=>match g.1 with
   | .go x=>K .normal ⟨e,dx (pc c1 tb) (I x).1,(I x).2⟩
   | .done ex hd s'=>K ex ⟨e,dx (pc c1 tb) hd,s'⟩))\/(v = .d (.bool false)/\(match g' with
   | .go x=>K .normal ⟨e,dx (pc c1 tb) (I x).1,(I x).2⟩
   | .done ex hd s'=>K ex ⟨e,dx (pc c1 tb) hd,s'⟩)))) (fun x' yQ L'=>⟨rfl,.inl ⟨rfl,ih x' L' yQ⟩⟩) (fun ex hd s' hk L'=>⟨rfl,.inr ⟨rfl,hk⟩⟩)
 exact key items x0 L SC
theorem cO(hT:aY P T){g:Operand}{ps:Array Tmp}{a b:Code}(JT:cE P T ft a)(JU:cE P T ft b){f:FuncId}{aM:List D}{e:Env}{h:ar}{s:σ}{K:dR->St σ->Prop}(N9:aD e g=some (.d (.clo f aM)))
  (c1 c2:Nat) (tb:List Nat) {β:Type} {items:List β} {arg:β->List V} {hp:β->ar} (hf:Yields P f aM (items.map fun b=>(arg b,hp b)))
  (I:α->ar×σ) (J:List β->α->Prop) (x0:α) (oa:xM c1 c2 tb e (Fj tb h)=true) (hI:I x0=(dx (ov c1 tb) (Fj tb h),s)) (EU:Hz c2 tb (I x0).1=true) (SC:J items x0)
  (round:∀ it rest x,J (it::rest) x -> ∀ (Q:V->ar->RS α σ->Prop),(∀ x',J rest x'->Q (.d (.bool true)) (hp it) (.go x'))->(∀ ex hd s',K ex ⟨e,dx (pc c1 tb) hd,s'⟩->Q (.d (.bool false)) (hp it) (.done ex hd s')) ->
   (oW P T ft Y I ps a b (sk (ov c1 tb) e) c2 tb).y (arg it) (hp it) (.go x) Q)
  (fin:∀ x,J [] x->K .normal ⟨e,dx (pc c1 tb) (I x).1,(I x).2⟩):fI P ft Y g ps a b ⟨e,h,s⟩ K:=fI.wk (Wk.ord tb) (wP hT JT JU N9 c1 c2 tb hf I J x0 oa hI EU SC round fin)
theorem wT{e:Env}{h:ar}{s:σ}{d:Option Nat}{ds:List D}{r:List (List V×ar)}{Q:σ->Prop}(fF:iterate Y ((inj ds,[])::r) s Q){args:List V}(hv:args=inj ds)(hd:Nat.ble (d.getD 0) 10000=true){K:St σ->Prop}
  (kt:∀ s',iterate Y r s' Q->a7 (aS d (.d (.bool true))) e h fun e h=>K ⟨e,h,s'⟩) (kf:∀ s',Q s'->a7 (aS d (.d (.bool false))) e h fun e h=>K ⟨e,h,s'⟩):Jl P Y ⟨e,h,s⟩ d args K:=by
 have hB:∀ b:Bool,gT [] d (.d (.bool b)) []=true:=by
  intro b;simp only[gT,Bool.and_eq_true];refine⟨⟨⟨⟨⟨⟨⟨⟨⟨rfl,rfl⟩,rfl⟩,rfl⟩,rfl⟩,rfl⟩,rfl⟩,hd⟩,rfl⟩,?_⟩;cases d<;>rfl
 have Kx:∀ (R:Nat->Nat) (l:List D),oX R (inj l)=inj l:=by
  intro R l
  induction l with
  | nil=>rfl
  | cons c r ih=>show aB (l6 R) (.d c)::cr (l6 R) (inj r) = .d c::inj r;rw[show cr (l6 R) (inj r)=inj r from ih];rfl
 refine Io [] fF (by rw[hv];exact Kx _ _) rfl rfl rfl ?_;rintro v h1 s' ⟨rfl,hv⟩;rcases hv with⟨rfl,hi⟩|⟨rfl,hq⟩
 ·refine⟨hB true,?_⟩
  have:=kt s' hi;rw[cd s']at this;have hs:(aH (⟨e,h,s'⟩:St σ) (aS d (.d (.bool true)))).s=s':=cJ _ _;show K (aH ⟨e,h,s'⟩ (aS d (.d (.bool true))));generalize aH (⟨e,h,s'⟩:St σ) (aS d (.d (.bool true)))=st at this hs;obtain⟨e1,h1,s1⟩:=st;simp only at hs;subst hs;exact this
 ·refine⟨hB false,?_⟩
  have:=kf s' hq;rw[cd s']at this;have hs:(aH (⟨e,h,s'⟩:St σ) (aS d (.d (.bool false)))).s=s':=cJ _ _;show K (aH ⟨e,h,s'⟩ (aS d (.d (.bool false))));generalize aH (⟨e,h,s'⟩:St σ) (aS d (.d (.bool false)))=st at this hs;obtain⟨e1,h1,s1⟩:=st;simp only at hs;subst hs;exact this
end
end Go.PX
namespace Go.PX
theorem ax{α:Type}{l:List α}{f:α->List D}{i:Nat}{x:α}{K:List D->Prop}(hx:l[i]?=some x)(k:K (f x)):vz (l.map f) (i:Int) K:=
 bZ (f x) (by simp[hx]) k
theorem aF{g:Nat->Option DO}{v:V}{r:List V}{d:D}{l:List D}(h1:dI g v=some d)(h2:cR g r=some l):cR g (v::r)=some (d::l):=by
 rw[cR,h1,h2]
theorem bR{h:ar}{k id sz n:Nat}{es:List (List D)}(hg:get h id=some (.arr sz (.dd es)))(hn:n=es.length):dI (gL h (k+1)) (.sl id sz 0 n)=some (.vs es):=by
 have h1:Nat.beq sz sz=true:=Nat.beq_refl sz;have h2:Nat.ble (0+es.length) es.length=true:=Nat.ble_eq_true_of_le (by omega);subst hn;simp only[dI,gL,hg,h1,h2,List.drop_zero,List.take_length]
section
variable {P : Program} {T : dJ} {σ : Type} {Y : Hd σ}
theorem Bs{ft:FT}{c:Code}{α:Type}(I:α->St σ)(Pr:α->Prop)(μ:α->Nat)(x0:α){st:St σ}{K:dR->St σ->Prop}(h0:Wk st (I x0))(p0:Pr x0)
  (round:∀ x,Pr x->x7 P Y c (I x) fun e dj=>match e with
   | .normal=>∃ y,μ y<μ x/\Pr y/\Wk dj (I y)
   | e=>K e dj):vp P ft Y c st K:=by
 refine⟨x7.wk h0 ?_⟩;intro cx hY r m0 L0 F0 a w hg hc;have hc:codeOk a.tmps.size c=true:=hc
 let J:Act->World->α->Prop:=fun a' w' x=>Pr x /\ ∃ m L F,Good cx r m L F (I x) a' w'/\Tr F0 w F w'/\a'.tmps.size=a.tmps.size
 let M:Act->World->Nat:=fun a' w'=>wv fun n=>∃ x,J a' w' x/\μ x=n
 refine wpIn_loop (fun a' w'=>∃ x,J a' w' x) M ⟨x0,p0,m0,L0,F0,hg,Tr.refl F0 w,rfl⟩ fun a' w' hJ=>?_;obtain⟨x,⟨hp,m,L,F,eR,tr,hs⟩,hx⟩:=wx (p:=fun n=>∃ x,J a' w' x/\μ x=n) (by obtain⟨x,hx⟩:=hJ;exact⟨μ x,x,hx,rfl⟩);refine wpIn_mono (round x hp cx hY r m L F a' w' eR (by rw[hs];exact hc)) fun ex Iq Cn hq=>?_;rcases hq with⟨e',xV,m1,L1,F1,rfl,h2,h3,h4,h5⟩|Gn
 case inr=>
  have Kt:=Gn;obtain⟨v,pe,ph,ps,m',L',F',rfl,_⟩:=Gn;exact .inr (Kt.trans tr hs)
 cases e' with
 | normal=>
  obtain⟨y,hy,Ty,E2⟩:=h2;obtain⟨L2,F2,lQ,DN⟩:=E2 cx r m1 L1 F1 Iq Cn h3;have NN:J Iq Cn y:=⟨Ty,m1,L2,F2,lQ,Tr.trans tr (Tr.trans h4 DN),h5.trans hs⟩;refine⟨⟨y,NN⟩,?_⟩;have:M Iq Cn<=μ y:=zK ⟨y,NN,rfl⟩;have hx:μ x=M a' w':=hx;omega
 | exit i=>exact .inl ⟨.exit i,xV,m1,L1,F1,rfl,h2,h3,Tr.trans tr h4,h5.trans hs⟩
 | ret=>exact .inl ⟨.ret,xV,m1,L1,F1,rfl,h2,h3,Tr.trans tr h4,h5.trans hs⟩
theorem x7.mono{c:Code}{st:St σ}{K1 K2:dR->St σ->Prop}(hw:x7 P Y c st K1)(h:∀ e st,K1 e st->K2 e st):x7 P Y c st K2:=by
 intro cx hY r m L F a w hg hc;refine wpIn_mono (hw cx hY r m L F a w hg hc) fun ex a' w' hq=>?_;rcases hq with⟨e',dj,m',L',F',h1,h2,h3⟩|hp
 ·exact .inl ⟨e',dj,m',L',F',h1,h _ _ h2,h3⟩
 ·exact .inr hp
theorem wO(hT:aY P T){ft:FT}{c:Code}(hD:cE P T ft c){α β:Type}(l:List α)(I:Nat->β->St σ)(J:List α->β->Prop)(x0:β){st:St σ}{K:dR->St σ->Prop}(h0:Wk st (I 0 x0))(j0:J l x0)
  (round:∀ (i:Nat) (x:α) (r:List α) (acc:β),l[i]?=some x->i<l.length->i+1+r.length=l.length->J (x::r) acc->Dy P T ft Y c (I i acc) fun e dj=>match e with
   | .normal=>∃ nJ,J r nJ/\Wk dj (I (i+1) nJ)
   | e=>K e dj)
  (fin:∀ acc,J [] acc->Dy P T ft Y c (I l.length acc) fun e dj=>match e with
   | .normal=>False
   | e=>K e dj):vp P ft Y c st K:=by
 refine Bs (α:=Nat×β) (fun p=>I p.1 p.2) (fun p=>p.1<=l.length/\J (l.drop p.1) p.2) (fun p=>l.length+1-p.1) (0,x0) h0 ⟨Nat.zero_le _,by simpa using j0⟩ ?_;rintro ⟨i,acc⟩ ⟨hi,hj⟩;simp only at hi hj ⊢;by_cases dN:i<l.length
 ·have hd:l.drop i=l[i]::l.drop (i+1):=List.drop_eq_getElem_cons dN
  rw[hd]at hj;refine x7.mono (cU hT c hD _ _ (round i l[i] (l.drop (i+1)) acc (List.getElem?_eq_getElem dN) dN (by simp;omega) hj)) fun e dj hk=>?_
  cases e with
  | normal=>
   obtain⟨nJ,h1,h2⟩:=hk;exact⟨(i+1,nJ),by simp only;omega,⟨dN,h1⟩,h2⟩
  | exit i=>exact hk
  | ret=>exact hk
 ·have he:i=l.length:=by omega
  subst he;rw[List.drop_length]at hj;refine x7.mono (cU hT c hD _ _ (fin acc hj)) fun e dj hk=>?_
  cases e with
  | normal=>exact hk.elim
  | exit i=>exact hk
  | ret=>exact hk
theorem aZ(hT:aY P T){ft:FT}{c:Code}(hD:cE P T ft c){α β:Type}(l:List α)(I:Nat->β->St σ)(J:Nat->List α->β->Prop)(x0:β){st:St σ}{K:dR->St σ->Prop}(h0:Wk st (I 0 x0))(j0:J 0 l x0)
  (round:∀ (i:Nat) (x:α) (r:List α) (acc:β),l[i]?=some x->i<l.length->i+1+r.length=l.length->J i (x::r) acc->Dy P T ft Y c (I i acc) fun e dj=>match e with
   | .normal=>∃ nJ,J (i+1) r nJ/\Wk dj (I (i+1) nJ)
   | e=>K e dj)
  (fin:∀ acc,J l.length [] acc->Dy P T ft Y c (I l.length acc) fun e dj=>match e with
   | .normal=>False
   | e=>K e dj):vp P ft Y c st K:=by
 refine Bs (α:=Nat×β) (fun p=>I p.1 p.2) (fun p=>p.1<=l.length/\J p.1 (l.drop p.1) p.2) (fun p=>l.length+1-p.1) (0,x0) h0 ⟨Nat.zero_le _,by simpa using j0⟩ ?_;rintro ⟨i,acc⟩ ⟨hi,hj⟩;simp only at hi hj ⊢;by_cases dN:i<l.length
 ·have hd:l.drop i=l[i]::l.drop (i+1):=List.drop_eq_getElem_cons dN
  rw[hd]at hj;refine x7.mono (cU hT c hD _ _ (round i l[i] (l.drop (i+1)) acc (List.getElem?_eq_getElem dN) dN (by simp;omega) hj)) fun e dj hk=>?_
  cases e with
  | normal=>
   obtain⟨nJ,h1,h2⟩:=hk;exact⟨(i+1,nJ),by simp only;omega,⟨dN,h1⟩,h2⟩
  | exit i=>exact hk
  | ret=>exact hk
 ·have he:i=l.length:=by omega
  subst he;rw[List.drop_length]at hj;refine x7.mono (cU hT c hD _ _ (fin acc hj)) fun e dj hk=>?_
  cases e with
  | normal=>exact hk.elim
  | exit i=>exact hk
  | ret=>exact hk
end
end Go.PX
namespace Go.PX
open Go.RowKit
section
variable {σ : Type}
theorem Wk.Cc{e:Env}{h:ar}{s:σ}(id:Nat){o:Obj}(o':Obj)(hg:get h id=some o)(hr:∀ (yv:Option Nat) (L:Loc) (F:Nat->Nat) (w:World),bE yv L F w id o->bE yv L F w id o')(hb:∀ L,aG L id o'->aG L id o) :
  Wk (⟨e,h,s⟩:St σ) ⟨e,put h id o',s⟩:=by
 intro cx r m L F a w hh;have key:∀ i q,get (put h id o') i=some q->(i=id/\q=o')\/get h i=some q:=by
  intro i q hi;rw[dt]at hi;split at hi
  ·rename_i e1;cases hi;exact .inl ⟨e1,rfl⟩
  ·exact .inr hi
 refine⟨L,F,⟨⟨hh.heap.hg,hh.heap.kq,hh.heap.fresh,fun i q hi=>?_,fun i q hi kW=>?_,fun i j q p hi hj nZ kL e=>?_⟩,hh.env,hh.w8,hh.qB,hh.ye,hh.lk,hh.mB,hh.wE⟩,Tr.refl F w⟩
 ·rcases key i q hi with⟨rfl,rfl⟩|hi
  ·exact hr _ _ _ _ (hh.heap.obj i o hg)
  ·exact hh.heap.obj i q hi
 ·rcases key i q hi with⟨rfl,rfl⟩|hi
  ·exact hh.heap.own i o hg (hb L kW)
  ·exact hh.heap.own i q hi kW
 ·rcases key i q hi with⟨e1,e2⟩|EL<;>rcases key j p hj with⟨e3,e4⟩|CT
  ·rw[e1,e3]
  ·subst e1;subst e2
   exact hh.heap.inj _ _ _ _ hg CT (hb L nZ) kL e
  ·subst e3;subst e4
   exact hh.heap.inj _ _ _ _ EL hg nZ (hb L kL) e
  ·exact hh.heap.inj _ _ _ _ EL CT nZ kL e
theorem Wk.shrink{e:Env}{h:ar}{s:σ}(id n:Nat){sz:Nat}{es:List (List D)}(hg:get h id=some (.arr sz (.dd es))):Wk (⟨e,h,s⟩:St σ) ⟨e,put h id (.arr sz (.dd (es.take n))),s⟩:=by
 refine Wk.Cc id _ hg (fun yv L F w h=>?_) fun L hb=>hb;obtain⟨h1,h2,h3⟩:=h;have hlen:cy sz (cw (es.take n)):=by
  intro x hx;rw[cn,List.mem_map]at hx;obtain⟨y,hy,rfl⟩:=hx;exact h2 _ (by rw[show(aI.dd es).a5=cw es from rfl,cn];exact List.mem_map_of_mem (List.mem_of_mem_take hy))
 refine⟨h1,hlen,?_⟩;rcases h3 with⟨h3,h4⟩|⟨c,T,hc,k1,k2,k3⟩
 ·left
  have:es = []:=by
   have:cw es = []:=h3
   cases es with
   | nil=>rfl
   | cons a l=>cases this
  subst this;exact⟨by simp[aI.a5,cw],h4⟩
 ·right
  have e1:(aI.dd es).a5=cw es:=rfl;have e2:(aI.dd (es.take n)).a5=(cw es).take n:=by show cw (es.take n)=_;rw[cn,cn,List.map_take]
  have e3:((cw es).take n).length<=(cw es).length:=by simp;omega
  rw[e1]at k2 k3;refine⟨c,T,hc,k1,?_,?_⟩
  ·rw[e2];exact Nat.le_trans (Nat.mul_le_mul_right _ e3) k2
  ·rw[e2]
   have:=ak.take (((cw es).take n).length*sz) k3;rw[List.take_take]at this;have G9:min (((cw es).take n).length*sz) ((cw es).length*sz)=((cw es).take n).length*sz:=Nat.min_eq_left (Nat.mul_le_mul_right _ e3);rw[G9]at this;have hl:cy sz (cw es):=h2;have hf:(cw es).flatten.take (((cw es).take n).length*sz)=((cw es).take n).flatten:=by
    have:=fm (sz:=sz) n hl;rw[this];simp only[List.length_take];by_cases hn:n<=(cw es).length
    ·rw[Nat.min_eq_left hn]
    ·rw[Nat.min_eq_right (by omega),List.take_of_length_le (by rw[ir hl];exact Nat.le_refl _),List.take_of_length_le (by rw[ir hl];exact Nat.mul_le_mul_right _ (by omega))]
   rw[hf]at this;exact this
theorem Wk.pA{e:Env}{h:ar}{s:σ}(b k sz:Nat)(hk:Nat.blt k 1000000=true)(hs:Nat.blt 0 sz=true)(hb:get h b=some (.box (.dd [.nils])))(kW:Nat.beq b k=false) :
  Wk (⟨e,h,s⟩:St σ) ⟨cj (aB (aU k)) e,put (((k,.arr sz (.dd []))::cj (Obj.aB (aU k)) (cut h k))) b (.box (.vv [.sl k sz 0 0])),s⟩:=by
 have hk:=Nat.le_of_ble_eq_true hk;have hs:=Nat.le_of_ble_eq_true hs;have eX:b≠k:=by rintro rfl;simp at kW
 have h1:Wk (⟨e,h,s⟩:St σ) ⟨cj (aB (aU k)) e,((k,.arr sz (.dd []))::cj (Obj.aB (aU k)) (cut h k)),s⟩:=by
  intro cx r m L F a w hg;exact⟨_,F,hg.jI k sz (by unfold pinned;omega) hs (.dd []) rfl,Tr.refl F w⟩
 refine h1.trans (Wk.Cc b (o:=.box (.dd [.nils])) _ (by rw[eM,if_neg eX,bC,dz,if_neg eX,hb];rfl) (fun yv L F w h=>?_) fun L hb=>hb);obtain⟨c,T,hc,x,l',hl,hx,hr⟩:=h;have hx:x = .slice none 0 0:=hx;subst hx;exact⟨c,T,hc,_,l',hl,⟨none,0,rfl,Nat.le_refl _,hs,.inl ⟨rfl,rfl⟩⟩,hr⟩
end
theorem aK{k:IntKind}{n:Int}{K:V->Prop}(m:Int)(h:n=m)(hw:k.wrap m=m)(hK:K (.d (.int k m))):arith k n K:=by subst h;exact pz hw hK
theorem rl{g:Nat->Option DO}:∀ (l:List D),cR g (inj l)=some l
 | []=>rfl
 | d::r=>by
  show cR g (.d d::inj r)=_;rw[cR,rl r];rfl
section
variable {P : Program} {T : dJ} {σ : Type} {Y : Hd σ}
theorem pn{f:FuncId}{args0:List V}{h0:ar}{s:σ}{Q:V->ar->σ->Prop}(hf:DD P Y f args0 h0 s Q)(tb:List Nat){e:Env}{h:ar}{d:Option Nat}{args:List V}{K:St σ->Prop}
  (ct:oX (dM tb (d.getD 0)) args0=args) (ew:hU (dM tb (d.getD 0)) h 1000000 tb h0) (uV:hX tb=true) (yb:Nat.ble tb.length 1000=true)
  (hq:∀ v h1 s',Q v h1 s'->gT tb d v h1=true/\a7 (cX tb d v h1) e h fun e h=>K ⟨e,h,s'⟩):ef P Y ⟨e,h,s⟩ d f args K:=by
 refine D9 hf tb ct ew uV yb fun v h1 s' hv=>?_;obtain⟨h2,h3⟩:=hq v h1 s' hv;refine⟨h2,?_⟩;rw[cd s']at h3;have hs:(aH (⟨e,h,s'⟩:St σ) (cX tb d v h1)).s=s':=cJ _ _;generalize aH (⟨e,h,s'⟩:St σ) (cX tb d v h1)=st at h3 hs;obtain⟨e1,h1,s1⟩:=st;simp only at hs;subst hs;exact h3
end
mutual
def lj:V->V->Prop
 | .d a,.d b=>a=b
 | .agg a,.agg b=>ra a b
 | .tup a,.tup b=>ra a b
 | .clo f a,.clo g b=>f=g/\ra a b
 | .ptr i o,.ptr j p=>Nat.beq i j=true/\o=p
 | .ep i s k o,.ep j t l p=>Nat.beq i j=true/\s=t/\k=l/\o=p
 | .sl i s o n,.sl j t p m=>Nat.beq i j=true/\s=t/\o=p/\n=m
 | .mp i,.mp j=>Nat.beq i j=true
 | .it i,.it j=>Nat.beq i j=true
 | .yld,.yld=>True
 | .unk,.unk=>True
 | _,_=>False
def ra:List V->List V->Prop
 | [],[]=>True
 | a::r,b::s=>lj a b/\ra r s
 | _,_=>False
end
mutual
theorem FK:∀ (a b:V),lj a b->a=b
 | .d a,b,h=>by cases b<;>simp only[lj]at h;rw[h]
 | .agg a,b,h=>by cases b<;>simp only[lj]at h;rw[ll _ _ h]
 | .tup a,b,h=>by cases b<;>simp only[lj]at h;rw[ll _ _ h]
 | .clo f a,b,h=>by cases b<;>simp only[lj]at h;rw[h.1,ll _ _ h.2]
 | .ptr i o,b,h=>by cases b<;>simp only[lj]at h;rw[Nat.eq_of_beq_eq_true h.1,h.2]
 | .ep i s k o,b,h=>by cases b<;>simp only[lj]at h;rw[Nat.eq_of_beq_eq_true h.1,h.2.1,h.2.2.1,h.2.2.2]
 | .sl i s o n,b,h=>by cases b<;>simp only[lj]at h;rw[Nat.eq_of_beq_eq_true h.1,h.2.1,h.2.2.1,h.2.2.2]
 | .mp i,b,h=>by cases b<;>simp only[lj]at h;rw[Nat.eq_of_beq_eq_true h]
 | .it i,b,h=>by cases b<;>simp only[lj]at h;rw[Nat.eq_of_beq_eq_true h]
 | .yld,b,h=>by cases b<;>simp only[lj]at h;rfl
 | .unk,b,h=>by cases b<;>simp only[lj]at h;rfl
theorem ll:∀ (a b:List V),ra a b->a=b
 | [],[],_=>rfl
 | a::r,b::s,h=>by rw[FK a b h.1,ll r s h.2]
 | [],_::_,h=>h.elim
 | _::_,[],h=>h.elim
end
theorem pB{h:ar}{i:Nat}{l l':List V}(h1:get h i=some (.box (.vv l)))(h2:ra l l'):get h i=some (.box (.vv l')):=by rw[h1,ll l l' h2]
theorem fV{σ:Type}{r:List V}{h:ar}{s:σ}{Q:V->ar->σ->Prop}(hr:sU (.d (.vs [])::r) h s Q):sU (.d .nils::r) h s Q:=by
 obtain⟨hr⟩:=hr;refine⟨fun cx L F bh w hh hv=>hr cx L F bh w hh ?_⟩;obtain⟨x,l',rfl,hx,hl⟩:=hv;have hx:x = .slice none 0 0:=hx;subst hx;exact⟨_,l',rfl,⟨none,0,0,rfl,rfl,Nat.le_refl _,fun h=>absurd rfl h⟩,hl⟩
theorem gj{α:Type}{n:Nat}{f:α->List D}(hf:∀ x,Nat.beq (f x).length n=true/\fJ (f x)=true):∀ (l:List α),ig n (l.map f)=true
 | []=>rfl
 | x::r=>by
  simp only[List.map_cons,ig,(hf x).1,(hf x).2];exact gj hf r
section
variable {P : Program} {T : dJ} {σ : Type} {Y : Hd σ}
theorem ef.W8{st:St σ}{d:Option Nat}{f:FuncId}{args:List V}{K:St σ->Prop}(h:ef P Y st d f args fun xV=>∃ ri,Wk xV ri/\K ri):ef P Y st d f args K:=by
 obtain⟨h1,h2⟩:=h;refine⟨h1,fun cx hY r m L F a w bh hg hd hr=>(h2 cx hY r m L F a w bh hg hd hr).mono ?_⟩;rintro e w' (⟨x,rfl,dj,L',F',⟨ri,hw,hk⟩,eR,tr⟩|hp);case inr=>exact .inr hp
 obtain⟨L2,F2,lQ,DN⟩:=hw cx r m L' F' _ w' eR;exact .inl ⟨x,rfl,ri,L2,F2,hk,lQ,Tr.trans tr DN⟩
theorem Br{f:FuncId}{args0:List V}{h0:ar}{s:σ}{Q:V->ar->σ->Prop}(hf:DD P Y f args0 h0 s Q)(tb:List Nat){e:Env}{h:ar}{d:Option Nat}{args:List V}{K:St σ->Prop}
  (ct:oX (dM tb (d.getD 0)) args0=args) (ew:hU (dM tb (d.getD 0)) h 1000000 tb h0) (uV:hX tb=true) (yb:Nat.ble tb.length 1000=true)
  (hq:∀ v h1 s',Q v h1 s'->gT tb d v h1=true/\a7 (cX tb d v h1) e h fun e h=>∃ ri,Wk ⟨e,h,s'⟩ ri/\K ri):ef P Y ⟨e,h,s⟩ d f args K:=
 ef.W8 (pn hf tb ct ew uV yb hq)
end
theorem BP{X:Option Obj}{g:Nat->Option DO}{id sz n:Nat}{d:D}(h1:X=some (jN g (.box (.vv [.sl id sz 0 n]))))(hv:dI g (.sl id sz 0 n)=some d):X=some (.box (.dd [d])):=by
 rw[h1];simp[jN,gu,fz,hv,qJ]
theorem Good.Pw{σ:Type}{e:Env}{h:ar}{s:σ}(n:Nat)(ids:List Nat){cx:Cx σ}{r:Option Nat}{m:List Nat}{L:Loc}{F:Nat->Nat}{a:Act}{w:World}(hg:Good cx r m L F ⟨e,h,s⟩ a w) :
  ∃ F1,Good cx r m L F1 ⟨cj (fz (gL (aT ids h) n)) e,cj (jN (gL (aT ids h) n)) (w7 h ids),s⟩ a w/\Tr F w F1 w /\ ∀ (vs:List V) (l:List Value),ak cx.yv L F w vs l->ak cx.yv L F1 w (gu (gL (aT ids h) n) vs) l:=by
 have pX:cP (aT ids h) h:=ia ids h;have ec:ba cx L F (aT ids h) s w:=(hg.sub (e:=e) (h:=aT ids h) (fun _ _ h=>h) pX).heap;have tr:=fZ ec;have As:∀ b,cx.C s b->eV L F (aT ids h) w b=F b:=fun b hb=>pP ec hb;have EC:∀ id o,get h id=some o->id∉ids->aG L id o->eV L F (aT ids h) w (L.ρ id)=F (L.ρ id):=by
  intro id o hi hn hb;refine gE ?_;rintro ⟨j,p,hj,kL,oM⟩;have:=hg.heap.inj j id p o (pX j p hj) hi kL hb oM;subst this;exact hn (iw ids h j p hj)
 have Gh:=fo ec;have sb:=oR ec n;generalize eV L F (aT ids h) w=F1 at tr As EC Gh sb;generalize gL (aT ids h) n=g at sb;have tG:∀ i o',get (cj (jN g) (w7 h ids)) i=some o'->i∉ids /\ ∃ o0,get h i=some o0/\o'=jN g o0:=by
  intro i o' hi;rw[bC,tw]at hi;split at hi
  ·cases hi
  ·rename_i hn
   cases h0:get h i with
   | none=>simp[h0]at hi
   | some o0=>simp[h0]at hi;exact⟨hn,o0,rfl,hi.symm⟩
 refine⟨F1,⟨⟨cx.ff hg.heap.hg tr Gh fun b hb=>⟨rfl,As b hb⟩,hg.heap.kq,Gh,?_,?_,?_⟩,?_,hg.w8,hg.qB,hg.ye,hg.lk,hg.mB,hg.wE⟩,tr,fun vs l hv=>ak.fz tr sb vs l hv⟩
 ·intro i o' hi
  obtain⟨_,o0,h0,rfl⟩:=tG i o' hi;exact bE.fz tr sb i o0 (hg.heap.obj i o0 h0)
 ·intro i o' hi hb
  obtain⟨hn,o0,h0,rfl⟩:=tG i o' hi;have hb:=(fT i o0).1 hb;rw[EC i o0 h0 hn hb];exact hg.heap.own i o0 h0 hb
 ·intro i j o' p hi hj nZ kL he
  obtain⟨_,o0,h0,rfl⟩:=tG i o' hi;obtain⟨_,p0,xz,rfl⟩:=tG j p hj;exact hg.heap.inj i j o0 p0 h0 xz ((fT i o0).1 nZ) ((fT j p0).1 kL) he
 ·intro t v ht
  simp only[bC]at ht
  cases h0:get e t with
  | none=>simp[h0]at ht
  | some v0=>
   simp[h0]at ht;subst ht;obtain⟨x,hx,hr⟩:=hg.env t v0 h0;exact⟨x,hx,aR.fz tr sb v0 x hr⟩
section
variable {P : Program} {T : dJ} {σ : Type} {Y : Hd σ}
theorem vk(n:Nat)(ids:List Nat){e:Env}{h:ar}{s:σ}{d:Option Nat}{f:FuncId}{args:List V}{K:St σ->Prop}
  (hc:ef P Y ⟨cj (fz (gL (aT ids h) n)) e,cj (jN (gL (aT ids h) n)) (w7 h ids),s⟩ d f (gu (gL (aT ids h) n) args) K):ef P Y ⟨e,h,s⟩ d f args K:=by
 obtain⟨h1,h2⟩:=hc;refine⟨h1,fun cx hY r m L F a w bh hg hd hr=>?_⟩;obtain⟨F1,g9,tr,hv⟩:=hg.Pw n ids;refine(h2 cx hY r m L F1 a w bh g9 hd (hv _ _ hr)).mono ?_;rintro en w' (⟨x,rfl,dj,L',F',hk,eR,o9⟩|⟨pv,pe,ph,ps,L',F',he,hy,Kc,Lg⟩)
 ·exact .inl ⟨x,rfl,dj,L',F',hk,eR,Tr.trans tr o9⟩
 ·exact .inr ⟨pv,pe,ph,ps,L',F',he,hy,Kc,Tr.trans tr Lg⟩
theorem vm{e e':Env}{h h':ar}{s:σ}{d:Option Nat}{f:FuncId}{args args':List V}{K:St σ->Prop}(he:uH e e')(hh:qu h h')(ha:args=args')(hc:ef P Y ⟨e',h',s⟩ d f args' K):ef P Y ⟨e,h,s⟩ d f args K:=by
 subst ha;obtain⟨h1,h2⟩:=hc;refine⟨h1,fun cx hY r m L F a w bh hg hd hr=>?_⟩;exact h2 cx hY r m L F a w bh (hg.sub (uI he) (rj hh)) hd hr
end
section
variable {P : Program} {T : dJ} {σ : Type} {Y : Hd σ}
theorem yj{st:St σ}{d:Option Nat}{f:FuncId}{args args':List V}{K:St σ->Prop}(ha:∀ (yv:Option Nat) (L:Loc) (F:Nat->Nat) (w:World) (l:List Value),ak yv L F w args l->ak yv L F w args' l)(hc:ef P Y st d f args' K):ef P Y st d f args K:=by
 obtain⟨h1,h2⟩:=hc;exact⟨h1,fun cx hY r m L F a w bh hg hd hr=>h2 cx hY r m L F a w bh hg hd (ha _ _ _ _ _ hr)⟩
theorem Ah{st:St σ}{d:Option Nat}{f:FuncId}{r:List V}{K:St σ->Prop}(hc:ef P Y st d f (.d (.vs [])::r) K):ef P Y st d f (.d .nils::r) K:=by
 refine yj (fun yv L F w l hv=>?_) hc;obtain⟨x,l',rfl,hx,hl⟩:=hv;have hx:x = .slice none 0 0:=hx;subst hx;exact⟨_,l',rfl,⟨none,0,0,rfl,rfl,Nat.le_refl _,fun h=>absurd rfl h⟩,hl⟩
end
theorem gx{h:ar}{k id sz n:Nat}{es es':List (List D)}(hg:get h id=some (.arr sz (.dd es)))(he:es=es')(hn:n=es'.length):dI (gL h (k+1)) (.sl id sz 0 n)=some (.vs es'):=by
 subst he;exact bR hg hn
end Go.PX
namespace Go.PX
theorem nG{g:Nat->Option DO}:∀ {a:List D} {r:List V} {r':List D},cR g r=some r'->cR g (inj a++r)=some (a++r')
 | [],r,r',h=>h
 | d::a,r,r',h=>by
  show cR g (.d d::(inj a++r))=_;rw[cR,nG h];rfl
theorem rm{h:ar}{n id:Nat}{l:List V}{l':List D}(hg:get h id=some (.box (.vv l)))(hl:cR (gL h n) l=some l'):dI (gL h (n+1)) (.ptr id 0)=some (.ref l'):=by
 simp only[dI,gL,hg,hl,List.drop_zero]
theorem F7{h:ar}{n id:Nat}{bT:List (D×D)}(hg:get h id=some (.map bT)):dI (gL h (n+1)) (.mp id)=some (.mv bT):=by
 simp only[dI,gL,hg]
theorem ak.AS{yv:Option Nat}{L:Loc}{F:Nat->Nat}{w:World}{B:List V}(k sz:Nat)(hs:0<sz):∀ {A:List V} {l:List Value},ak yv L F w (A ++ .d .nils::B) l->ak yv L F w (A ++ .sl k sz 0 0::B) l
 | [],l,h=>by
  obtain⟨x,l',rfl,hx,hr⟩:=h;have hx:x = .slice none 0 0:=hx;subst hx;exact⟨_,l',rfl,⟨none,0,rfl,Nat.le_refl _,hs,.inl ⟨rfl,rfl⟩⟩,hr⟩
 | a::A,l,h=>by
  obtain⟨x,l',rfl,hx,hr⟩:=h;exact⟨x,l',rfl,hx,ak.AS k sz hs hr⟩
theorem Wk.Jp{σ:Type}{e:Env}{h:ar}{s:σ}(b k sz:Nat)(A B:List V)(hk:Nat.blt k 1000000=true)(hs:Nat.blt 0 sz=true)(hb:get (cj (Obj.aB (aU k)) (cut h k)) b=some (.box (.vv (A ++ .d .nils::B))))(kW:Nat.beq b k=false) :
  Wk (⟨e,h,s⟩:St σ) ⟨cj (aB (aU k)) e,put (((k,.arr sz (.dd []))::cj (Obj.aB (aU k)) (cut h k))) b (.box (.vv (A ++ .sl k sz 0 0::B))),s⟩:=by
 have hk:=Nat.le_of_ble_eq_true hk;have hs:=Nat.le_of_ble_eq_true hs;have eX:b≠k:=by rintro rfl;simp at kW
 have h1:Wk (⟨e,h,s⟩:St σ) ⟨cj (aB (aU k)) e,((k,.arr sz (.dd []))::cj (Obj.aB (aU k)) (cut h k)),s⟩:=by
  intro cx r m L F a w hg;exact⟨_,F,hg.jI k sz (by unfold pinned;omega) hs (.dd []) rfl,Tr.refl F w⟩
 refine h1.trans (Wk.Cc b (o:=.box (.vv (A ++ .d .nils::B))) _ (by rw[eM,if_neg eX];exact hb) (fun yv L F w h=>?_) fun L hb=>hb);obtain⟨c,T,hc,hr⟩:=h;exact⟨c,T,hc,ak.AS k sz hs hr⟩
end Go.PX
