import Derived.Test.YtgpmlbbkfmkmkaaGreatDoorPxH
import Derived.ProofKit
import Derived.ReadAgain
set_option linter.all false
namespace Go.PX
open Go.RowKit
mutual
def yfree:V->Bool
 | .agg cs=>qcH cs
 | .tup cs=>qcH cs
 | .clo _ cs=>qcH cs
 | .yld=>false
 | _=>true
def qcH:List V->Bool
 | []=>true
 | v::r=>yfree v&&qcH r
end
mutual
theorem RepV.yfree{yv yv':Option Nat}{L:Loc}{F:Nat->Nat}{w:World}:∀ (v:V) (x:Value),PX.yfree v=true->RepV yv L F w v x->RepV yv' L F w v x
 | .d _,_,_,h=>h
 | .agg cs,x,hy,h=>by
  obtain⟨l,rfl,hl⟩:=h;exact⟨l,rfl,RepVL.yfree cs _ hy hl⟩
 | .tup cs,x,hy,h=>by
  obtain⟨l,rfl,hl⟩:=h;exact⟨l,rfl,RepVL.yfree cs _ hy hl⟩
 | .clo f cs,x,hy,h=>by
  obtain⟨l,rfl,hl⟩:=h;exact⟨l,rfl,RepVL.yfree cs _ hy hl⟩
 | .ptr _ _,_,_,h=>h
 | .ep _ _ _ _,_,_,h=>h
 | .sl _ _ _ _,_,_,h=>h
 | .mp _,_,_,h=>h
 | .it _,_,_,h=>h
 | .yld,_,hy,_=>by cases hy
 | .unk,_,_,h=>h
theorem RepVL.yfree{yv yv':Option Nat}{L:Loc}{F:Nat->Nat}{w:World}:∀ (vs:List V) (l:List Value),qcH vs=true->RepVL yv L F w vs l->RepVL yv' L F w vs l
 | [],_,_,h=>h
 | v::r,l,hy,h=>by
  simp only[qcH,Bool.and_eq_true]at hy;obtain⟨x,l',rfl,hx,hl⟩:=h;exact⟨x,l',rfl,RepV.yfree v x hy.1 hx,RepVL.yfree r l' hy.2 hl⟩
end
def qjm:Obj->Bool
 | .box c=>qcH c.toV
 | .arr _ es=>qcH es.toV.flatten
 | .mit v _ _ _=>yfree v
 | .tb _ l=>qcH l
 | _=>true
def qoE:Heap->Bool
 | []=>true
 | (_,o)::r=>qjm o&&qoE r
theorem qeO:∀ {h:Heap} {i:Nat} {o:Obj},qoE h=true->get h i=some o->qjm o=true
 | [],i,o,_,h=>by cases h
 | (k,p)::r,i,o,hy,h=>by
  simp only[qoE,Bool.and_eq_true]at hy;simp only[get]at h;split at h
  ·cases h;exact hy.1
  ·exact qeO hy.2 h
theorem RepO.yfree{yv yv':Option Nat}{L:Loc}{F:Nat->Nat}{w:World}{id:Nat}(o:Obj)(hy:qjm o=true)(h:RepO yv L F w id o):RepO yv' L F w id o:=by
 cases o with
 | box cs=>
  obtain⟨c,T,hc,hr⟩:=h;exact⟨c,T,hc,RepVL.yfree _ _ hy hr⟩
 | arr sz es=>
  obtain⟨h1,h2,h3⟩:=h;refine⟨h1,h2,h3.imp (fun h=>h) ?_⟩;rintro ⟨c,T,hc,k1,k2,hr⟩;refine⟨c,T,hc,k1,k2,RepVL.yfree _ _ hy hr⟩
 | map kvs=>exact h
 | iter s n=>exact h
 | buf t s=>exact h
 | tb t l=>
  obtain⟨c,hc,hr⟩:=h;exact⟨c,hc,RepVL.yfree _ _ hy hr⟩
 | mit v n l u=>
  obtain⟨r,seen,h1,h2⟩:=h;exact⟨r,seen,RepV.yfree v _ hy h1,h2⟩
inductive RS(α σ:Type) where
 | go (x:α)
 | done (e:AExit) (h:Heap) (s:σ)
section
variable {α σ : Type}
def RS.heap(I:α->Heap×σ):RS α σ->Heap
 | .go x=>(I x).1
 | .done _ h _=>h
def RS.st(I:α->Heap×σ):RS α σ->σ
 | .go x=>(I x).2
 | .done _ _ s=>s
def qwC:AExit->Code
 | .ret=>.ret
 | .exit i=>.exit i
 | .normal=>.skip
def qdV(base:Go.Loop):RS α σ->Go.Loop
 | .go _=>{ base with state:=.ready,pending:=none }
 | .done e _ _=>{ base with state:=.done,pending:=some (qwC e) }
def qrx(L:Loc)(h:Heap)(b:Nat):Prop:=∃ id o,get h id=some o/\Backed L id o/\L.ρ id=b
def qN(c n i:Nat):Bool:=Nat.ble c i&&Nat.blt i (c+n)
def qqA(p:Nat->Bool):List Nat->Bool
 | []=>true
 | i::r=>p i&&qqA p r
theorem qaN{p:Nat->Bool}:∀ {l:List Nat},qqA p l=true -> ∀ i∈l,p i=true
 | [],_,i,hi=>by cases hi
 | k::r,h,i,hi=>by
  simp only[qqA,Bool.and_eq_true]at h;rcases List.mem_cons.1 hi with rfl|hi
  ·exact h.1
  ·exact qaN h.2 i hi
def okH(c:Nat)(tb:List Nat)(h:Heap):Bool:=qqA (fun i=>!qN c 64 i && !inL tb i) (zz h)
def okL(args:List V)(h:Heap):Bool:=qqA (qN 1000000 64) (zh args)&&qqA (qN 1000000 64) (zz h)&&(qcH args&&qoE h)
structure RInv(cx:Cx σ)(I:α->Heap×σ)(l:Nat)(m:List Nat)(r:Option Nat)(base:Go.Loop)(e1:Env)(tmps:Array Value)(c:Nat)(tb:List Nat)(pρ pκ:Nat->Nat)(F0:Nat->Nat)(w0:World)(g:RS α σ×Loc)(w:World)(F:Nat->Nat):Prop where
 heap:HeapOk cx g.2 F (g.1.heap I) (g.1.st I) w
 rcd:w.heap[l]?=some (.loop (qdV base g.1))/\¬ cx.C (g.1.st I) l
 mks:∀ b∈m,w.heap[b]?=some (.deferred (some []))/\¬ cx.C (g.1.st I) b
 out:∀ l0,r=some l0 -> ∃ lp,(w.heap[l0]?=some (.loop lp)/\cx.rcd=some lp)/\¬ cx.C (g.1.st I) l0
 env:∀ t v,get e1 t=some v -> ∃ x,tmps[t]?=some x/\RepV cx.yv g.2 F w v x
 pin:∀ i,pinned i->g.2.ρ i=pρ i/\g.2.κ i=pκ i
 tr:Tr F0 w0 F w
 ok:okH c tb (g.1.heap I)=true
def qat(cx:Cx σ)(I:α->Heap×σ)(l:Nat)(m:List Nat)(r:Option Nat)(base:Go.Loop)(e1:Env)(tmps:Array Value)(c:Nat)(tb:List Nat)(pρ pκ:Nat->Nat)(F0:Nat->Nat)(w0:World):Cx (RS α σ×Loc) where
 C:=fun g b=>cx.C (g.1.st I) b\/qrx g.2 (g.1.heap I) b\/b=l\/b∈m\/r=some b
 HG:=fun g w F=>RInv cx I l m r base e1 tmps c tb pρ pκ F0 w0 g w F
 yv:=some l
 rcd:=none
 pρ:=cx.pρ
 pκ:=cx.pκ
 stable:=by
  intro s w F w' F' h tr hf hk;refine⟨h.heap.keep tr hf (fun b hb=>hk b (.inl hb)) (fun id o hi hb=>hk _ (.inr (.inl ⟨id,o,hi,hb,rfl⟩))),⟨by rw[(hk l (.inr (.inr (.inl rfl)))).1];exact h.rcd.1,h.rcd.2⟩,
   fun b hb=>⟨by rw[(hk b (.inr (.inr (.inr (.inl hb))))).1];exact(h.mks b hb).1,(h.mks b hb).2⟩,fun l0 hl=>?_,fun t v ht=>?_,h.pin,Tr.trans h.tr tr,h.ok⟩
  ·obtain⟨lp,⟨k1,k2⟩,k3⟩:=h.out l0 hl
   exact⟨lp,⟨by rw[(hk l0 (.inr (.inr (.inr (.inr hl))))).1];exact k1,k2⟩,k3⟩
  ·obtain⟨x,hx,hr⟩:=h.env t v ht
   exact⟨x,hx,RepV.mono tr v x (fun _ _=>⟨rfl,rfl⟩) hr⟩
def qry:List Tmp->List V->Env->Env
 | t::ps,v::vs,e=>qry ps vs (put e t v)
 | _,_,e=>e
def jg(c:Nat)(i:Nat):Nat:=
 match Nat.ble 1000000 i,Nat.blt i 1000064 with
 | true,true=>c+(i-1000000)
 | _,_=>i
noncomputable def qhY(P:Program)(T:Tys)(ft:FT)(Y:Hd σ)(I:α->Heap×σ)(ps:Array Tmp)(a b:Code)(e1:Env)(c:Nat)(tb:List Nat):Hd (RS α σ) where
 y:=fun args h g Q=>match g with
  | .done _ _ _=>False
  | .go x=>(args.length=ps.size/\okL args h=true)/\wpA P T ft Y.np a ⟨qry ps.toList (qpJ (jg c) args) e1,(I x).1++qci (jg c) h,(I x).2⟩ fun e st=>match e with
   | .normal=>wpA P T ft Y.np b st fun e st'=>match e with
    | .normal=>∃ x',Wk st' ⟨[],(I x').1++qci (jg c) h,(I x').2⟩/\okH c tb (I x').1=true/\Q (.d (.bool true)) h (.go x')
    | e=>∃ hd s',Wk st' ⟨[],hd++qci (jg c) h,s'⟩/\okH c tb hd=true/\Q (.d (.bool false)) h (.done e hd s')
   | _=>False
def qrz(Y:Hd (RS α σ)):Hd (RS α σ×Loc) where
 y:=fun args h g Q=>Y.y args h g.1 fun v h' g'=>∀ L',Q v h' (g',L')
theorem HeapOk.append{cx:Cx σ}{L:Loc}{F:Nat->Nat}{h k:Heap}{s:σ}{w:World}(hh:HeapOk cx L F h s w)(hk:HeapOk cx L F k s w)
  (hx:∀ i j o p,get h i=some o->get k j=some p->Backed L i o->Backed L j p->L.ρ i≠L.ρ j):HeapOk cx L F (h++k) s w:=by
 have hg:∀ {h:Heap} {i:Nat} {o:Obj},get (h++k) i=some o->get h i=some o\/get k i=some o:=by
  intro h
  induction h with
  | nil=>exact fun h=>.inr h
  | cons a r ih=>
   intro i o h;obtain⟨j,p⟩:=a;simp only[List.cons_append,get]at h ⊢;split at h
   ·exact .inl h
   ·exact ih h
 refine⟨hh.hg,hh.csz,hh.fresh,fun i o hi=>(hg hi).elim (hh.obj i o) (hk.obj i o),fun i o hi=>(hg hi).elim (hh.own i o) (hk.own i o),fun i j o p hi hj hb hb' e=>?_⟩;rcases hg hi with hi|hi<;>rcases hg hj with hj|hj
 ·exact hh.inj i j o p hi hj hb hb' e
 ·exact absurd e (hx i j o p hi hj hb hb')
 ·exact absurd e.symm (hx j i p o hj hi hb' hb)
 ·exact hk.inj i j o p hi hj hb hb' e
theorem qdW{h k:Heap}{i:Nat}{o:Obj}:get h i=some o->get (h++k) i=some o:=by
 induction h with
 | nil=>intro h;cases h
 | cons a r ih=>
  intro h;obtain⟨j,p⟩:=a;simp only[List.cons_append,get]at h ⊢;split at h
  ·exact h
  ·exact ih h
theorem qgS{h k:Heap}{i:Nat}{o:Obj}:get h i=none->get k i=some o->get (h++k) i=some o:=by
 induction h with
 | nil=>intro _ h;exact h
 | cons a r ih=>
  intro h1 h2;obtain⟨j,p⟩:=a;simp only[List.cons_append,get]at h1 ⊢;split at h1
  ·cases h1
  ·exact ih h1 h2
theorem qhZ{R:Nat->Nat}:∀ {h:Heap} {j:Nat} {o:Obj},(∀ i∈zz h,R i=R j->i=j)->get h j=some o->get (qci R h) (R j)=some (qgE R o)
 | [],j,o,_,h=>by cases h
 | (k,p)::r,j,o,hi,h=>by
  simp only[get]at h;simp only[qci,get];split at h
  ·rename_i he
   have:=Nat.eq_of_beq_eq_true he;subst this;cases h;simp
  ·rename_i he
   have:Nat.beq (R k) (R j)=false:=by
    rw[Bool.eq_false_iff];intro e;have:=hi k (by simp[zz]) (Nat.eq_of_beq_eq_true e);subst this;simp at he
   simp only[this];exact qhZ (fun i h1=>hi i (by simp[zz,h1])) h
theorem Handles.np{P:Program}{Y:Hd σ}{cx:Cx σ}(hY:Handles P Y cx):Handles P Y.np cx:=⟨hY.yld,hY.laid⟩
theorem Handles.upd{P:Program}{Y:Hd σ}{cx:Cx σ}(hY:Handles P Y cx)(rcd:Option Go.Loop)(pρ pκ:Nat->Nat):Handles P Y { cx with rcd:=rcd,pρ:=pρ,pκ:=pκ }:=by
 refine⟨?_,hY.laid⟩;intro l hl args h s Q hy L' F' vals w hh' hr;obtain⟨fn,tmps,asg,body,h1,h2⟩:=hY.yld l hl args h s Q hy L' F' vals w ⟨hh'.hg,hh'.csz,hh'.fresh,hh'.obj,hh'.own,hh'.inj⟩ hr;refine⟨fn,tmps,asg,body,h1,h2.mono ?_⟩;rintro e w' ⟨x,he,v,h',s',L'',F'',hq,hh'',rest⟩;exact⟨x,he,v,h',s',L'',F'',hq,⟨hh''.hg,hh''.csz,hh''.fresh,hh''.obj,hh''.own,hh''.inj⟩,rest⟩
theorem Good.record{cx:Cx σ}{l:Nat}{m:List Nat}{L:Loc}{F:Nat->Nat}{st:St σ}{a:Act}{w:World}(hg:Good cx (some l) m L F st a w)(lp:Go.Loop) :
  Good { cx with rcd:=some lp } (some l) m L F st a (w.putObj l (.loop lp))/\Tr F w F (w.putObj l (.loop lp)):=by
 obtain⟨lp0,⟨h1,_⟩,h2⟩:=hg.lk l rfl;have tr:Tr F w F (w.putObj l (.loop lp)):=Tr.ctl h1 (fun _ _ _ h=>by cases h) (fun _ _ h=>by cases h) (fun _ _ _ h=>by cases h);have hk:∀ x,x≠l->(w.putObj l (.loop lp)).heap[x]?=w.heap[x]?:=fun x hx=>World.putObj_heap_other hx;have hh:=hg.heap.keep tr (fun b hb=>hg.heap.fresh b (by simpa using hb)) (fun b hb=>⟨hk b (by rintro rfl;exact h2 hb),rfl⟩) (fun id o hi hb=>⟨hk _ (by
  intro e;exact(RepO.not_ctl (hg.heap.obj id o hi) hb (by rw[e];exact h1)).1 lp0 rfl),rfl⟩)
 refine⟨⟨⟨hh.hg,hh.csz,hh.fresh,hh.obj,hh.own,hh.inj⟩,fun t v ht=>?_,hg.dfr,fun b hb=>?_,hg.mnd,fun l' hl=>?_,hg.pin,hg.tsz⟩,tr⟩
 ·obtain⟨x,hx,hr⟩:=hg.env t v ht
  exact⟨x,hx,RepV.mono tr v x (fun _ _=>⟨rfl,rfl⟩) hr⟩
 ·obtain⟨k1,k2⟩:=hg.mks b hb
  exact⟨by rw[hk b (by rintro rfl;rw[h1]at k1;cases k1)];exact k1,k2⟩
 ·cases hl
  exact⟨lp,⟨World.putObj_heap_same (za h1),rfl⟩,h2⟩
end
end Go.PX
namespace Go.PX
open Go.RowKit
section
variable {P : Program} {T : Tys} {ft : FT} {α σ : Type} {Y : Hd σ} {cx : Cx σ} {I : α -> Heap × σ} {l : Nat} {m : List Nat} {r : Option Nat} {base : Go.Loop} {e1 : Env} {tmps : Array Value} {c : Nat} {tb : List Nat} {pρ pκ : Nat -> Nat} {F0 : Nat -> Nat} {w0 : World}
theorem qem{c i:Nat}(h:qN 1000000 64 i=true):jg c i=c+(i-1000000)/\1000000<=i/\i<1000064:=by
 simp only[qN,Bool.and_eq_true]at h;have h1:=Nat.le_of_ble_eq_true h.1;have h2:i<1000064:=Nat.le_of_ble_eq_true h.2;exact⟨by unfold jg;rw[h.1,show Nat.blt i 1000064=true from h.2],h1,h2⟩
theorem qac{c n i:Nat}:qN c n i=true↔c<=i/\i<c+n:=by
 simp only[qN,Bool.and_eq_true];exact⟨fun h=>⟨Nat.le_of_ble_eq_true h.1,Nat.le_of_ble_eq_true h.2⟩,fun h=>⟨Nat.ble_eq_true_of_le h.1,Nat.ble_eq_true_of_le h.2⟩⟩
def zb(c:Nat)(L L2:Loc):Loc:=⟨fun j=>if qN c 64 j then L2.ρ (1000000+(j-c)) else L.ρ j,fun j=>if qN c 64 j then L2.κ (1000000+(j-c)) else L.κ j⟩
theorem jo{L L2:Loc}{j:Nat}(h:qN c 64 j=false):(zb c L L2).ρ j=L.ρ j/\(zb c L L2).κ j=L.κ j:=by
 simp[zb,h]
theorem qbW{L L2:Loc}{i:Nat}(h:qN 1000000 64 i=true):(zb c L L2).ρ (jg c i)=L2.ρ i/\(zb c L L2).κ (jg c i)=L2.κ i:=by
 obtain⟨h1,h2,h3⟩:=qem (c:=c) h;have:qN c 64 (jg c i)=true:=by rw[qac];omega
 have h4:1000000+(jg c i-c)=i:=by omega
 simp[zb,this,h4]
theorem qhd{h:Heap}(hk:okH c tb h=true):∀ i∈zz h,qN c 64 i=false/\i∉tb:=by
 intro i hi;have:=qaN hk i hi;simp only[Bool.and_eq_true,Bool.not_eq_true']at this;exact⟨this.1,fun hm=>by rw[qbr.2 hm]at this;cases this.2⟩
theorem qlR:∀ {ps:List Tmp} {vs:List V} {e:Env} {vals:List Value} {t0:Array Value} {yv:Option Nat} {L:Loc} {F:Nat->Nat} {w:World},ps.length=vs.length->(∀ p∈ps,p<t0.size)->RepVL yv L F w vs vals->(∀ t v,get e t=some v -> ∃ x,t0[t]?=some x/\RepV yv L F w v x) ->
  ∀ t v,get (qry ps vs e) t=some v -> ∃ x,((ps.zip vals).foldl (fun tm (p:Tmp×Value)=>tm.setIfInBounds p.1 p.2) t0)[t]?=some x/\RepV yv L F w v x
 | [],vs,e,vals,t0,yv,L,F,w,_,_,_,he,t,v,ht=>by
  have:qry [] vs e=e:=by cases vs<;>rfl
  rw[this]at ht;simpa using he t v ht
 | p::ps,[],e,vals,t0,yv,L,F,w,hl,_,_,_,_,_,_=>by cases hl
 | p::ps,v0::vs,e,_,t0,yv,L,F,w,hl,hp,⟨x,l',rfl,hx,hr⟩,he,t,v,ht=>by
  simp only[List.zip_cons_cons,List.foldl_cons];refine qlR (ps:=ps) (vs:=vs) (e:=put e p v0) (t0:=t0.setIfInBounds p x) (by simpa using hl) (fun q hq=>by simpa using hp q (List.mem_cons_of_mem _ hq)) hr (fun t' v' ht'=>?_) t v ht;clear ht;rw[jq]at ht';split at ht'
  ·rename_i e1;cases ht';rw[e1]
   exact⟨x,by simp[Array.getElem?_setIfInBounds,hp p (List.mem_cons_self ..)],hx⟩
  ·rename_i e1
   obtain⟨y,hy,hry⟩:=he t' v' ht';exact⟨y,by rw[Array.getElem?_setIfInBounds_ne (Ne.symm e1)];exact hy,hry⟩
theorem qgh:∀ (l:List (Tmp×Value)) (t0:Array Value),(l.foldl (fun tm (p:Tmp×Value)=>tm.setIfInBounds p.1 p.2) t0).size=t0.size
 | [],t0=>rfl
 | p::l,t0=>by simp only[List.foldl_cons];rw[qgh l];simp
def qkt(cx:Cx σ)(s0:σ)(w:World)(F:Nat->Nat)(Own:Nat->Prop)(l:Nat)(rcd:Option Go.Loop)(pρ pκ:Nat->Nat):Cx σ:=
 { qoy cx s0 w F (fun b=>Own b\/b=l) with rcd:=rcd,pρ:=pρ,pκ:=pκ }
theorem qnn{cx:Cx σ}{I:α->Heap×σ}{x:α}{L1:Loc}{w:World}{F:Nat->Nat}(hg:(qat cx I l m r base e1 tmps c tb pρ pκ F0 w0).HG (.go x,L1) w F)(hbase:base.state = .ready/\base.pending=none){ps:Array Tmp}
  (hps:∀ p∈ps.toList,p<tmps.size) (htm:tmps.size<=1000000) (hc:1000000<=c/\c+64<=2000000) (hE:∀ i∈qaM e1,pinned i/\qN c 64 i=false) {args:List V} {h:Heap} {L2:Loc} {vals:Array Value}
  (hh:HeapOk (qat cx I l m r base e1 tmps c tb pρ pκ F0 w0) L2 F h (.go x,L1) w) (hr:RepVL (some l) L2 F w args vals.toList) (hlen:args.length=ps.size) (hok:okL args h=true) :
  Good (qkt cx (I x).2 w F (qrx (zb c L1 L2) ((I x).1++qci (jg c) h)) l (some base) (zb c L1 L2).ρ (zb c L1 L2).κ) (some l) [] (zb c L1 L2) F
   ⟨qry ps.toList (qpJ (jg c) args) e1,(I x).1++qci (jg c) h,(I x).2⟩ { tmps:=(ps.zip vals).foldl (fun t (p,v)=>t.setIfInBounds p v) tmps,defers:=[] } w:=by
 obtain⟨i1,i2,i3,i4,i5,i6,i7,i8⟩:=hg;simp only[RS.heap,RS.st]at i1 i2 i3 i4 i8;simp only[okL,Bool.and_eq_true]at hok;obtain⟨⟨hA,hB⟩,hyf⟩:=hok;have hA:=qaN hA;have hB:=qaN hB;have hC:=qhd i8;have hh1:HeapOk cx L2 F h (I x).2 w:=⟨i1.hg,fun b hb=>hh.csz b (.inl hb),hh.fresh,fun id o hi=>RepO.yfree o (qeO hyf.2 hi) (hh.obj id o hi),fun id o hi hb=>⟨(hh.own id o hi hb).1,fun h=>(hh.own id o hi hb).2 (.inl h)⟩,hh.inj⟩;have hr1:RepVL cx.yv L2 F w args vals.toList:=RepVL.yfree _ _ hyf.1 hr;have hA1:HeapOk cx (zb c L1 L2) F (I x).1 (I x).2 w:=by
  refine⟨i1.hg,i1.csz,i1.fresh,fun id o hi=>?_,fun id o hi hb=>?_,fun i j o p hi hj hb hb' e=>?_⟩
  ·obtain⟨n1,n2⟩:=qH hi
   exact RepO.mono (Tr.refl F w) id o (fun j hj=>jo (hC j (n2 j (jz j o hj))).1) (jo (hC id n1).1) (fun _=>rfl) (i1.obj id o hi)
  ·obtain⟨n1,n2⟩:=qH hi
   obtain⟨q1,q2⟩:=jo (L:=L1) (L2:=L2) (hC id n1).1;rw[q1];exact i1.own id o hi (qaa q2 hb)
  ·obtain⟨n1,_⟩:=qH hi
   obtain⟨n2,_⟩:=qH hj;obtain⟨q1,q2⟩:=jo (L:=L1) (L2:=L2) (hC i n1).1;obtain⟨q3,q4⟩:=jo (L:=L1) (L2:=L2) (hC j n2).1;rw[q1,q3]at e;exact i1.inj i j o p hi hj (qaa q2 hb) (qaa q4 hb') e
 have hB1:HeapOk cx (zb c L1 L2) F (qci (jg c) h) (I x).2 w:=hh1.ren fun i hi=>qbW (hB i hi);have hAB:=hA1.append hB1 (by
  intro i j o p hi hj hb hb' e;obtain⟨n1,_⟩:=qH hi;obtain⟨q1,q2⟩:=jo (L:=L1) (L2:=L2) (hC i n1).1;obtain⟨j',p',hj',rfl,rfl⟩:=qdp hj;obtain⟨n2,_⟩:=qH hj';obtain⟨q3,q4⟩:=qbW (c:=c) (L:=L1) (L2:=L2) (hB j' n2);rw[q1,q3]at e;refine(hh.own j' p' hj' ((zm (R:=jg c) (L:=L2) (L':=zb c L1 L2) j' p' q4).1 hb')).2 (.inr (.inl ⟨i,o,hi,qaa q2 hb,e⟩)))
 refine⟨⟨⟨i1.hg,Nat.le_refl _,fun b hb hc=>hc,fun b hb hl hc=>⟨rfl,rfl⟩⟩,fun b hb=>hb.elim (i1.csz b) (fun h=>h.1),i1.fresh,hAB.obj,fun id o hi hb=>⟨(hAB.own id o hi hb).1,fun hC=>hC.elim (hAB.own id o hi hb).2 fun hC=>hC.2 (.inl ⟨id,o,hi,hb,rfl⟩)⟩,hAB.inj⟩,?_,rfl,(fun b hb=>by cases hb),List.nodup_nil,?_,fun _ _=>⟨rfl,rfl⟩,?_⟩
 ·intro t v ht
  have hv1:RepVL cx.yv (zb c L1 L2) F w (qpJ (jg c) args) vals.toList:=(RepVL.ren (R:=jg c) (L:=L2) (L':=zb c L1 L2) args _ fun i hi=>qbW (hA i (jy i args hi))).2 hr1;have:=qlR (ps:=ps.toList) (t0:=tmps) (by simp[qbD,hlen]) hps hv1 (fun t v ht=>by
   obtain⟨y,hy,hry⟩:=i5 t v ht;exact⟨y,hy,RepV.mono (Tr.refl F w) v y (fun j hj=>jo (hE j (qbl ht hj)).2) hry⟩) t v ht
  rw[<- Array.foldl_toList,Array.toList_zip];exact this
 ·intro l' hl
  cases hl;have hb:qdV base (RS.go x:RS α σ)=base:=by
   obtain⟨h1,h2⟩:=hbase;cases base;simp only at h1 h2;subst h1;subst h2;rfl
  rw[hb]at i2;exact⟨base,⟨i2.1,rfl⟩,fun hC=>hC.elim i2.2 fun hC=>hC.2 (.inr rfl)⟩
 ·show((ps.zip vals).foldl (fun t (p,v)=>t.setIfInBounds p v) tmps).size<=1000000
  rw[<- Array.foldl_toList,qgh];exact htm
theorem qno{cx:Cx σ}{I:α->Heap×σ}{x:α}{L1:Loc}{w:World}{F:Nat->Nat}(hg:(qat cx I l m r base e1 tmps c tb pρ pκ F0 w0).HG (.go x,L1) w F)(hrl:r≠some l)(hc:1000000<=c/\c+64<=2000000)(hE:∀ i∈qaM e1,pinned i/\qN c 64 i=false)
  {args:List V} {h:Heap} {L2:Loc} (hh:HeapOk (qat cx I l m r base e1 tmps c tb pρ pκ F0 w0) L2 F h (.go x,L1) w) (hok:okL args h=true) {lp:Go.Loop} {m1:List Nat} {L3:Loc} {F3:Nat->Nat} {a:Act} {w3:World} {g:RS α σ} (hgo:qdV lp g=qdV base g)
  (hd:Good (qkt cx (I x).2 w F (qrx (zb c L1 L2) ((I x).1++qci (jg c) h)) l (some lp) (zb c L1 L2).ρ (zb c L1 L2).κ) (some l) m1 L3 F3 ⟨[],g.heap I++qci (jg c) h,g.st I⟩ a w3) (hok3:okH c tb (g.heap I)=true) (tr:Tr F w F3 w3) :
  ∃ L4 L5,HeapOk (qat cx I l m r base e1 tmps c tb pρ pκ F0 w0) L5 F3 h (g,L4) (w3.putObj l (.loop (qdV base g)))/\Tr F w F3 (w3.putObj l (.loop (qdV base g)))/\qfb L2 L5 /\
   (∀ b,b<w.heap.size->¬ (qat cx I l m r base e1 tmps c tb pρ pκ F0 w0).C (.go x,L1) b->¬ (qat cx I l m r base e1 tmps c tb pρ pκ F0 w0).C (g,L4) b) /\
   (∀ b,b<w.heap.size->¬ (qat cx I l m r base e1 tmps c tb pρ pκ F0 w0).C (.go x,L1) b->(∀ id o,get h id=some o->Backed L2 id o->L2.ρ id≠b)->(w3.putObj l (.loop (qdV base g))).heap[b]?=w.heap[b]?/\F3 b=F b) /\
   (∀ id o,get h id=some o->Backed L5 id o->L5.ρ id<w.heap.size -> ∃ id' o',get h id'=some o'/\Backed L2 id' o'/\L2.ρ id'=L5.ρ id):=by
 obtain⟨i1,i2,i3,i4,i5,i6,i7,i8⟩:=hg;simp only[RS.heap,RS.st]at i1 i2 i3 i4 i8;simp only[okL,Bool.and_eq_true]at hok;obtain⟨⟨hA,hB⟩,hyf⟩:=hok;have hB:=qaN hB;have hC:=qhd i8;have hC3:=qhd hok3;obtain⟨hHG,hsz,hCn,hkeep⟩:=hd.heap.hg;obtain⟨lp',⟨k1,k2⟩,k3⟩:=hd.lk l rfl;have k2:some lp=some lp':=k2;cases k2;have hlC:¬ cx.C (g.st I) l:=fun h=>k3 (.inl h);have hin:∀ i,qN c 64 i=true->pinned i:=fun i hi=>by rw[qac]at hi;unfold pinned;omega
 have hpl:∀ i,qN 1000000 64 i=true->L3.ρ (jg c i)=L2.ρ i/\L3.κ (jg c i)=L2.κ i:=by
  intro i hi;obtain⟨p1,p2⟩:=hd.pin (jg c i) (by obtain⟨q1,q2,q3⟩:=qem (c:=c) hi;unfold pinned;omega);obtain⟨p3,p4⟩:=qbW (c:=c) (L:=L1) (L2:=L2) hi;exact⟨p1.trans p3,p2.trans p4⟩
 let L4:Loc:=⟨fun j=>if qN c 64 j then L1.ρ j else L3.ρ j,fun j=>if qN c 64 j then L1.κ j else L3.κ j⟩
 have hL4:∀ j,qN c 64 j=false->L4.ρ j=L3.ρ j/\L4.κ j=L3.κ j:=fun j hj=>by simp[L4,hj]
 have hL4p:∀ i,pinned i->L4.ρ i=L1.ρ i/\L4.κ i=L1.κ i:=by
  intro i hi
  cases hr:qN c 64 i with
  | true=>simp[L4,hr]
  | false=>
   obtain⟨p1,p2⟩:=hd.pin i hi;obtain⟨p3,p4⟩:=jo (L:=L1) (L2:=L2) hr;obtain⟨p5,p6⟩:=hL4 i hr;exact⟨p5.trans (p1.trans p3),p6.trans (p2.trans p4)⟩
 have tr':Tr F3 w3 F3 (w3.putObj l (.loop (qdV base g))):=Tr.ctl k1 (fun _ _ _ h=>by cases h) (fun _ _ h=>by cases h) (fun _ _ _ h=>by cases h);have hk:∀ y,y≠l->(w3.putObj l (.loop (qdV base g))).heap[y]?=w3.heap[y]?:=fun y hy=>World.putObj_heap_other hy;have hnl:∀ id o,get (g.heap I++qci (jg c) h) id=some o->Backed L3 id o->L3.ρ id≠l:=fun id o hi hb e=>(RepO.not_ctl (hd.heap.obj id o hi) hb (by rw[e];exact k1)).1 _ rfl;have hsm:=hd.heap.keep (F':=F3) tr' (fun b hb=>hd.heap.fresh b (by simpa using hb)) (fun b hb=>⟨hk b (by rintro rfl;exact k3 hb),rfl⟩) (fun id o hi hb=>⟨hk _ (hnl id o hi hb),rfl⟩);obtain⟨hHG',_,_,_⟩:=hsm.hg;have hleft:∀ i o,get (g.heap I) i=some o->get (g.heap I++qci (jg c) h) i=some o:=fun i o hi=>qdW hi;have hright:∀ i o,get h i=some o->get (g.heap I++qci (jg c) h) (jg c i)=some (qgE (jg c) o):=by
  intro i o hi;obtain⟨n1,_⟩:=qH hi;have hni:get (g.heap I) (jg c i)=none:=by
   cases hq:get (g.heap I) (jg c i) with
   | none=>rfl
   | some o'=>
    have:=(hC3 _ (qH hq).1).1;obtain⟨q1,q2,q3⟩:=qem (c:=c) (hB i n1);rw[show qN c 64 (jg c i)=true from by rw[qac];omega]at this;cases this
  refine qgS hni (qhZ (fun j hj e=>?_) hi);obtain⟨q1,q2,q3⟩:=qem (c:=c) (hB i n1);obtain⟨q4,q5,q6⟩:=qem (c:=c) (hB j hj);omega
 have hbl:∀ i o,get h i=some o->(Backed L3 (jg c i) (qgE (jg c) o)↔Backed L2 i o):=fun i o hi=>zm (R:=jg c) (L:=L2) (L':=L3) i o (hpl i (hB i (qH hi).1)).2;have hx4:∀ i o,get (g.heap I) i=some o->L4.ρ i=L3.ρ i/\L4.κ i=L3.κ i:=fun i o hi=>hL4 i (hC3 i (qH hi).1).1;have hOwn0:∀ b,qrx (zb c L1 L2) ((I x).1++qci (jg c) h) b->qrx L1 (I x).1 b \/ ∃ j p,get h j=some p/\Backed L2 j p/\L2.ρ j=b:=by
  rintro b ⟨j,p,hj,hbj,e⟩
  cases hq:get (I x).1 j with
  | some p'=>
   have:p'=p:=by
    have:=qdW (k:=qci (jg c) h) hq;rw[hj]at this;exact(Option.some.inj this).symm
   subst this;obtain⟨q1,q2⟩:=jo (L:=L1) (L2:=L2) (hC j (qH hq).1).1;exact .inl ⟨j,p',hq,qaa q2 hbj,by rw[<- q1];exact e⟩
  | none=>
   have hj':get (qci (jg c) h) j=some p:=by
    have hgen:∀ (k:Heap),get k j=none -> ∀ k',get (k++k') j=get k' j:=by
     intro k
     induction k with
     | nil=>intro _ _;rfl
     | cons kv r ih=>
      obtain⟨u,v⟩:=kv;intro h1 k';simp only[List.cons_append,get]at h1 ⊢;split at h1
      ·cases h1
      ·exact ih h1 k'
    rw[<- hgen _ hq];exact hj
   obtain⟨j',p',hj'',rfl,rfl⟩:=qdp hj';obtain⟨q3,q4⟩:=qbW (c:=c) (L:=L1) (L2:=L2) (hB j' (qH hj'').1);exact .inr ⟨j',p',hj'',(zm (R:=jg c) (L:=L2) (L':=zb c L1 L2) j' p' q4).1 hbj,by rw[<- q3];exact e⟩
 have hown:∀ i o,get (g.heap I) i=some o->Backed L4 i o->¬ cx.C (g.st I) (L3.ρ i)/\F3 (L3.ρ i)=0/\L3.ρ i≠l/\(L3.ρ i<w.heap.size->qrx L1 (I x).1 (L3.ρ i)) /\ ∀ j p,get h j=some p->Backed L2 j p->L3.ρ i≠L2.ρ j:=by
  intro i o hi hb;have hb3:Backed L3 i o:=qaa (hx4 i o hi).2 hb;obtain⟨p1,p2⟩:=hd.heap.own i o (hleft i o hi) hb3;have hne:∀ j p,get h j=some p->Backed L2 j p->L3.ρ i≠L2.ρ j:=by
   intro j p hj hbj e;obtain⟨n1,_⟩:=qH hj;have:=hd.heap.inj i (jg c j) o _ (hleft i o hi) (hright j p hj) hb3 ((hbl j p hj).2 hbj) (by rw[(hpl j (hB j n1)).1];exact e);have h1:=(hC3 i (qH hi).1).1;rw[this]at h1;obtain⟨q1,q2,q3⟩:=qem (c:=c) (hB j n1);rw[show qN c 64 (jg c j)=true from by rw[qac];omega]at h1;cases h1
  refine⟨fun h=>p2 (.inl h),p1,hnl i o (hleft i o hi) hb3,fun hlt=>?_,hne⟩;have:qrx (zb c L1 L2) ((I x).1++qci (jg c) h) (L3.ρ i)\/L3.ρ i=l:=Classical.byContradiction fun hn=>p2 (.inr ⟨hlt,hn⟩);rcases this with ho|e
  ·rcases hOwn0 _ ho with ho|⟨j,p,hj,hbj,e⟩
   ·exact ho
   ·exact absurd e.symm (hne j p hj hbj)
  ·exact absurd e (hnl i o (hleft i o hi) hb3)
 have hsame:∀ b,b<w.heap.size->¬ qrx (zb c L1 L2) ((I x).1++qci (jg c) h) b->b≠l->¬ cx.C (I x).2 b->(w3.putObj l (.loop (qdV base g))).heap[b]?=w.heap[b]?/\F3 b=F b:=fun b hb ho hl hC=>by
  obtain⟨q1,q2⟩:=hkeep b hb (fun h=>h.elim ho hl) hC;exact⟨(hk b hl).trans q1,q2⟩
 have hctl:∀ b o,w.heap[b]?=some o->((∃ lp,o = .loop lp) \/ ∃ d,o = .deferred d)->¬ qrx (zb c L1 L2) ((I x).1++qci (jg c) h) b:=by
  intro b o hb ho hob;have:(∀ lp,o ≠ .loop lp)/\(∀ d,o ≠ .deferred d):=by
   rcases hOwn0 b hob with⟨j,p,hj,hbj,e⟩|⟨j,p,hj,hbj,e⟩
   ·exact RepO.not_ctl (i1.obj j p hj) hbj (by rw[e];exact hb)
   ·exact RepO.not_ctl (hh.obj j p hj) hbj (by rw[e];exact hb)
  rcases ho with⟨lp,rfl⟩|⟨d,rfl⟩
  ·exact this.1 _ rfl
  ·exact this.2 _ rfl
 refine⟨L4,L2,?_,Tr.trans tr tr',fun _ _=>⟨rfl,rfl⟩,?_,?_,fun id o hi hb _=>⟨id,o,hi,hb,rfl⟩⟩
 ·have hHG4:RInv cx I l m r base e1 tmps c tb pρ pκ F0 w0 (g,L4) (w3.putObj l (.loop (qdV base g))) F3:=by
   refine⟨⟨hHG',fun b hb=>hsm.csz b (.inl hb),hsm.fresh,fun i o hi=>?_,fun i o hi hb=>?_,fun i j o p hi hj hb hb' e=>?_⟩,⟨World.putObj_heap_same (za k1),hlC⟩,fun b hb=>?_,fun l0 hl0=>?_,fun t v ht=>?_,fun i hi=>?_,Tr.trans i7 (Tr.trans tr tr'),hok3⟩
   ·refine RepO.mono (Tr.refl _ _) i o (fun j hj=>hL4 j (hC3 j ((qH hi).2 j (jz j o hj))).1) (hx4 i o hi) (fun _=>rfl) (hsm.obj i o (hleft i o hi))
   ·obtain⟨z1,z2,_⟩:=hown i o hi hb
    show F3 (L4.ρ i)=0/\¬ cx.C (g.st I) (L4.ρ i);rw[(hx4 i o hi).1];exact⟨z2,z1⟩
   ·have e:L4.ρ i=L4.ρ j:=e
    rw[(hx4 i o hi).1,(hx4 j p hj).1]at e;exact hd.heap.inj i j o p (hleft i o hi) (hleft j p hj) (qaa (hx4 i o hi).2 hb) (qaa (hx4 j p hj).2 hb') e
   ·obtain⟨z1,z2⟩:=i3 b hb
    have hlt:=za z1;have hbl:b≠l:=by rintro rfl;rw[i2.1]at z1;cases z1
    exact⟨by rw[(hsame b hlt (hctl b _ z1 (.inr ⟨_,rfl⟩)) hbl z2).1];exact z1,hCn b hlt z2⟩
   ·obtain⟨lp0,⟨z1,z0⟩,z2⟩:=i4 l0 hl0
    have hlt:=za z1;have hbl:l0≠l:=by rintro rfl;exact hrl hl0
    exact⟨lp0,⟨by rw[(hsame l0 hlt (hctl l0 _ z1 (.inl ⟨_,rfl⟩)) hbl z2).1];exact z1,z0⟩,hCn l0 hlt z2⟩
   ·obtain⟨y,hy,hry⟩:=i5 t v ht
    exact⟨y,hy,RepV.mono (Tr.trans tr tr') v y (fun j hj=>hL4p j (hE j (qbl ht hj)).1) hry⟩
   ·obtain⟨p1,p2⟩:=hL4p i hi
    obtain⟨p3,p4⟩:=i6 i hi;exact⟨p1.trans p3,p2.trans p4⟩
  refine⟨hHG4,fun b hb=>?_,hsm.fresh,fun i o hi=>?_,fun i o hi hb=>?_,fun i j o p hi hj hb hb' e=>hh.inj i j o p hi hj hb hb' e⟩
  ·rcases hb with hb|⟨id,o,hi,hb,e⟩|rfl|hb|hb
   ·exact hsm.csz b (.inl hb)
   ·have hlt:=(hd.heap.obj id o (hleft id o hi)).lt (qaa (hx4 id o hi).2 hb)
    have e:L4.ρ id=b:=e;rw[(hx4 id o hi).1]at e;rw[<- e];simpa using hlt
   ·simpa using za k1
   ·exact za (hHG4.mks b hb).1
   ·obtain⟨lp0,⟨z1,_⟩,_⟩:=hHG4.out b hb
    exact za z1
  ·have h1:=hsm.obj _ _ (hright i o hi)
   have h2:=(RepO.ren (R:=jg c) (L:=L2) (L':=L3) i o (fun j hj=>hpl j (hB j ((qH hi).2 j (jz j o hj)))) (hpl i (hB i (qH hi).1))).1 h1;exact RepO.yfree o (qeO hyf.2 hi) h2
  ·have hb3:=(hbl i o hi).2 hb
   obtain⟨z1,z2⟩:=hd.heap.own _ _ (hright i o hi) hb3;have hp:=(hpl i (hB i (qH hi).1)).1;rw[hp]at z1 z2;refine⟨z1,?_⟩;rintro (hC'|⟨id,o',hi',hb',e⟩|e|hm|hm)
   ·exact z2 (.inl hC')
   ·obtain⟨_,_,_,_,z⟩:=hown id o' hi' hb'
    have e:L4.ρ id=L2.ρ i:=e;rw[(hx4 id o' hi').1]at e;exact z i o hi hb e
   ·exact hnl _ _ (hright i o hi) hb3 (by rw[hp];exact e)
   ·exact(hh.own i o hi hb).2 (.inr (.inr (.inr (.inl hm))))
   ·exact(hh.own i o hi hb).2 (.inr (.inr (.inr (.inr hm))))
 ·intro b hb hC hC'
  rcases hC' with hC'|⟨id,o',hi',hb',e⟩|e|hm|hm
  ·exact hCn b hb (fun h=>hC (.inl h)) hC'
  ·obtain⟨_,_,_,z,_⟩:=hown id o' hi' hb'
   have e:L4.ρ id=b:=e;rw[(hx4 id o' hi').1]at e;rw[e]at z;exact hC (.inr (.inl (z hb)))
  ·exact hC (.inr (.inr (.inl e)))
  ·exact hC (.inr (.inr (.inr (.inl hm))))
  ·exact hC (.inr (.inr (.inr (.inr hm))))
 ·intro b hb hC hno
  refine hsame b hb ?_ (fun e=>hC (.inr (.inr (.inl e)))) (fun h=>hC (.inl h));intro hob;rcases hOwn0 b hob with ho|⟨j,p,hj,hbj,e⟩
  ·exact hC (.inr (.inl ho))
  ·exact hno j p hj hbj e
end
section
variable {P : Program} {T : Tys} {ft : FT} {α σ : Type} {Y : Hd σ} {cx : Cx σ} {I : α -> Heap × σ} {l : Nat} {m : List Nat} {r : Option Nat} {base : Go.Loop} {e1 : Env} {tmps : Array Value} {c : Nat} {tb : List Nat} {pρ pκ : Nat -> Nat} {F0 : Nat -> Nat} {w0 : World}
theorem qku(hT:qU P T){ps:Array Tmp}{a b:Code}(hDa:zS P T ft a)(hDb:zS P T ft b)(hY:Handles P Y cx)(hrl:r≠some l)
  (hb1:base.params=ps) (hb2:base.assign=a) (hb3:base.body=b) (hb4:base.tmps=tmps) (hbase:base.state = .ready/\base.pending=none)
  (hps:∀ p∈ps.toList,p<tmps.size) (htm:tmps.size<=1000000) (hca:jm tmps.size a=true) (hcb:jm tmps.size b=true) (hc:1000000<=c/\c+64<=2000000) (hE:∀ i∈qaM e1,pinned i/\qN c 64 i=false) :
  Handles P (qrz (qhY P T ft Y I ps a b e1 c tb)) (qat cx I l m r base e1 tmps c tb pρ pκ F0 w0):=by
 refine⟨?_,fun s w F hh=>hY.laid _ w F hh.heap.hg⟩;intro l' hl args h s Q hy L2 F vals w hh hr;cases hl;obtain⟨g,L1⟩:=s
 cases g with
 | done e hd s=>exact hy.elim
 | go x=>
  obtain⟨⟨hlen,hok⟩,hy⟩:=hy;have hHG:=hh.hg;have hi:=hHG.rcd.1;have hrec:qdV base (RS.go x:RS α σ)=base:=by
   obtain⟨h1,h2⟩:=hbase;cases base;simp only at h1 h2;subst h1;subst h2;rfl
  have hi:w.heap[l]?=some (.loop base):=by rw[<- hrec];exact hi
  have hvl:vals.size=base.params.size:=by
   have:=hr.length;rw[hb1,<- hlen];simpa using this
  refine⟨base.fn,_,base.assign,base.body,run_yield hi hvl,?_⟩;refine roundIn_of_wpIn (F:=Fence.wide) trivial ?_;have hg:=qnn hHG hbase hps htm hc hE hh hr hlen hok;have hYr:Handles P Y (qkt cx (I x).2 w F (qrx (zb c L1 L2) ((I x).1++qci (jg c) h)) l (some base) (zb c L1 L2).ρ (zb c L1 L2).κ):=(qcu hY).upd _ _ _;have hsz:((ps.zip vals).foldl (fun t (p,v)=>t.setIfInBounds p v) tmps).size=tmps.size:=by rw[<- Array.foldl_toList,qgh]
  rw[hb1,hb2,hb3,hb4];have hA:=zM hT a hDa _ _ hy _ hYr.np (some l) [] _ F _ w hg (by rw[hsz];exact hca);refine wpIn_mono hA fun ex a1 w1 hq=>?_;rcases hq with⟨e',st1,m1,L3,F3,rfl,hk,hg1,tr1,hs1⟩|⟨_,_,_,_,_,_,_,_,hp,_⟩
  case inr=>exact hp.elim
  cases e' with
  | exit i=>exact hk.elim
  | ret=>exact hk.elim
  | normal=>
   obtain⟨lp,⟨q1,q2⟩,_⟩:=hg1.lk l rfl;have q2:some base=some lp:=q2;cases q2;refine⟨_,run_beginRound q1 hbase.1,?_⟩;obtain⟨hg2,tr2⟩:=hg1.record { base with state:=.busy };have hYr2:Handles P Y { qkt cx (I x).2 w F (qrx (zb c L1 L2) ((I x).1++qci (jg c) h)) l (some base) (zb c L1 L2).ρ (zb c L1 L2).κ with rcd:=some { base with state:=.busy } }:=hYr.upd (some { base with state:=.busy }) _ _;have hB:=zM hT b hDb _ _ hk _ hYr2.np (some l) m1 L3 F3 _ _ hg2 (by rw[hs1];show jm (Array.size _) b=true;rw[hsz];exact hcb);refine wpIn_mono hB fun ex a2 w2 hq=>?_;rcases hq with⟨e'',st2,m2,L4,F4,rfl,hk2,hg3,tr3,hs3⟩|⟨_,_,_,_,_,_,_,_,hp,_⟩
   case inr=>exact hp.elim
   have trA:Tr F w F4 w2:=Tr.trans tr1 (Tr.trans tr2 tr3);have fin:∀ (g:RS α σ) (jump:Option Code) (v:Bool),qdV base g={ base with state:=if jump.isNone then .ready else .done,pending:=jump }->v=jump.isNone->Wk st2 ⟨[],g.heap I++qci (jg c) h,g.st I⟩->okH c tb (g.heap I)=true ->
     (∀ L',Q (.d (.bool v)) h (g,L')) -> ∃ u w',(Instr.endRound l jump).run P w2 = .ok u w' /\ ∃ x_1,Ending.returned u = .returned x_1 /\ ∃ v h' s' L' F',Q v h' s'/\HeapOk (qat cx I l m r base e1 tmps c tb pρ pκ F0 w0) L' F' h' s' w' /\
      RepV (qat cx I l m r base e1 tmps c tb pρ pκ F0 w0).yv L' F' w' v x_1/\Tr F w F' w'/\qfb L2 L' /\
      (∀ b,b<w.heap.size->¬ (qat cx I l m r base e1 tmps c tb pρ pκ F0 w0).C (.go x,L1) b->¬ (qat cx I l m r base e1 tmps c tb pρ pκ F0 w0).C s' b) /\
      (∀ b,b<w.heap.size->¬ (qat cx I l m r base e1 tmps c tb pρ pκ F0 w0).C (.go x,L1) b->(∀ id o,get h id=some o->Backed L2 id o->L2.ρ id≠b)->w'.heap[b]?=w.heap[b]?/\F' b=F b) /\
      (∀ id o,get h' id=some o->Backed L' id o->L'.ρ id<w.heap.size -> ∃ id' o',get h id'=some o'/\Backed L2 id' o'/\L2.ρ id'=L'.ρ id):=by
    intro g jump v hrec hv hwk hok3 hQ;obtain⟨L5,F5,hg4,tr4⟩:=hwk _ _ _ _ _ _ _ hg3;obtain⟨lp,⟨q3,q4⟩,_⟩:=hg4.lk l rfl;have q4:some ({ base with state:=.busy }:Go.Loop)=some lp:=q4;cases q4;have hend:=run_endRound (P:=P) jump q3;have heq:({ ({ base with state:=.busy }:Go.Loop) with state:=if jump.isNone then .ready else .done,pending:=jump }:Go.Loop)=qdV base g:=hrec.symm;obtain⟨L6,L7,z1,z2,z3,z4,z5,z6⟩:=qno hHG hrl hc hE hh hok (g:=g) (by cases g<;>rfl) hg4 hok3 (Tr.trans trA tr4);rw[heq]at hend;exact⟨_,_,hend,_,rfl,_,h,(g,L6),L7,F5,hQ L6,z1,by rw[hv];exact rfl,z2,z3,z4,z5,z6⟩
   cases e'' with
   | normal=>
    obtain⟨x',hwk,hok3,hQ⟩:=hk2;exact fin (.go x') none true rfl rfl hwk hok3 hQ
   | ret=>
    obtain⟨hd,s',hwk,hok3,hQ⟩:=hk2;exact fin (.done .ret hd s') (some .ret) false rfl rfl hwk hok3 hQ
   | exit i=>
    obtain⟨hd,s',hwk,hok3,hQ⟩:=hk2;exact fin (.done (.exit i) hd s') (some (.exit i)) false rfl rfl hwk hok3 hQ
end
def qoF(c1 c2:Nat)(tb:List Nat)(e:Env)(h:Heap):Bool:=
 qcm tb&&qqA (fun i=>Nat.blt i 1000000) tb&&Nat.ble 1000000 c1&&Nat.ble (c1+tb.length) 2000000&&Nat.ble 1000000 c2&&Nat.ble (c2+64) 2000000&&qqA (fun k=>!qN c2 64 (c1+k)) (List.range tb.length) &&
  qqA (fun i=>inL tb i||(Nat.ble 1000000 i&&Nat.blt i 2000000 && !qN c1 tb.length i && !qN c2 64 i)) (qaM e) &&
  qqA (fun i=>!qN c1 tb.length i) (zz h)
section
variable {c1 : Nat} {tb : List Nat}
theorem qrA{k i:Nat}(h:tb[k]?=some i):dnR c1 tb (c1+k)=i:=by
 unfold dnR;rw[Nat.ble_eq_true_of_le (Nat.le_add_right c1 k),Nat.add_sub_cancel_left,h]
theorem qkv{i:Nat}(h:qN c1 tb.length i=false):dnR c1 tb i=i:=by
 unfold dnR;split
 ·rename_i hb
  have hb:=Nat.le_of_ble_eq_true hb;have:tb[i-c1]?=none:=by
   rw[List.getElem?_eq_none_iff];rcases Nat.lt_or_ge (i-c1) tb.length with hlt|hge
   ·rw[show qN c1 tb.length i=true from by rw[qac];omega]at h;cases h
   ·exact hge
  rw[this]
 ·rfl
theorem qrB{k i:Nat}(hn:tb.Nodup)(h:tb[k]?=some i):upR c1 tb i=c1+k:=by
 unfold upR
 cases hx:idx tb c1 i with
 | none=>exact absurd (List.mem_of_getElem? h) (qoD hx)
 | some j=>
  obtain⟨h1,h2⟩:=qks hx;have:=qhR hn h2 h;show j=c1+k;omega
theorem qia{i:Nat}(h:i∉tb):upR c1 tb i=i:=by
 unfold upR
 cases hx:idx tb c1 i with
 | none=>rfl
 | some j=>exact absurd (List.mem_of_getElem? (qks hx).2) h
end
mutual
theorem qib{R:Nat->Nat}:∀ (v:V) (i:Nat),i∈zq (mapId (qlJ R) v) -> ∃ j∈zq v,i=R j
 | .d _,i,h=>by cases h
 | .agg cs,i,h=>qco cs i h
 | .tup cs,i,h=>qco cs i h
 | .clo _ cs,i,h=>qco cs i h
 | .ptr j _,i,h=>⟨j,by simp[zq],by simpa[mapId,qlJ,zq]using h⟩
 | .ep j _ _ _,i,h=>⟨j,by simp[zq],by simpa[mapId,qlJ,zq]using h⟩
 | .sl j _ _ _,i,h=>⟨j,by simp[zq],by simpa[mapId,qlJ,zq]using h⟩
 | .mp j,i,h=>⟨j,by simp[zq],by simpa[mapId,qlJ,zq]using h⟩
 | .it j,i,h=>⟨j,by simp[zq],by simpa[mapId,qlJ,zq]using h⟩
 | .yld,i,h=>by cases h
 | .unk,i,h=>by cases h
theorem qco{R:Nat->Nat}:∀ (vs:List V) (i:Nat),i∈zh (zH (qlJ R) vs) -> ∃ j∈zh vs,i=R j
 | [],i,h=>by cases h
 | v::r,i,h=>by
  rcases List.mem_append.1 (show i∈zq (mapId (qlJ R) v)++zh (zH (qlJ R) r) from h) with h|h
  ·obtain⟨j,hj,rfl⟩:=qib v i h
   exact⟨j,List.mem_append.2 (.inl hj),rfl⟩
  ·obtain⟨j,hj,rfl⟩:=qco r i h
   exact⟨j,List.mem_append.2 (.inr hj),rfl⟩
end
section
variable {P : Program} {T : Tys} {ft : FT} {α σ : Type} {Y : Hd σ}
theorem RangeA.wk{g:Operand}{ps:Array Tmp}{a b:Code}{st st':St σ}{K:AExit->St σ->Prop}(hw:Wk st st')(h:RangeA P ft Y g ps a b st' K):RangeA P ft Y g ps a b st K:=by
 obtain⟨h⟩:=h;exact⟨WPC.wk hw h⟩
theorem qpQ(hT:qU P T){g:Operand}{ps:Array Tmp}{a b:Code}(hDa:zS P T ft a)(hDb:zS P T ft b){f:FuncId}{caps:List D}{e:Env}{h:Heap}{s:σ}{K:AExit->St σ->Prop}(hgv:opnd e g=some (.d (.clo f caps)))
  (c1 c2:Nat) (tb:List Nat) (I:α->Heap×σ) (x0:α) (hck:qoF c1 c2 tb e h=true) (hI:I x0=(qci (upR c1 tb) h,s)) (hok0:okH c2 tb (I x0).1=true)
  (hf:∀ L,FnC P (qrz (qhY P T ft Y I ps a b (qqz (upR c1 tb) e) c2 tb)) f (.yld::inj caps) [] (.go x0,L) fun v h' g=>h' = []/\match g.1 with
   | .go x=>K .normal ⟨e,qci (dnR c1 tb) (I x).1,(I x).2⟩
   | .done ex hd s'=>K ex ⟨e,qci (dnR c1 tb) hd,s'⟩):RangeA P ft Y g ps a b ⟨e,h,s⟩ K:=by
 constructor;intro cx hY r m L F aa w hg hc;simp only[jm,Bool.and_eq_true]at hc;obtain⟨⟨hps,hca⟩,hcb⟩:=hc;have hps:∀ p∈ps.toList,p<aa.tmps.size:=fun p hp=>of_decide_eq_true (List.all_eq_true.1 hps p hp);simp only[qoF,Bool.and_eq_true]at hck;obtain⟨⟨⟨⟨⟨⟨⟨⟨k1,k2⟩,k3⟩,k4⟩,k5⟩,k6⟩,k7⟩,k8⟩,k9⟩:=hck;have htb:=qas k1;have htb6:∀ i∈tb,i<1000000:=fun i hi=>Nat.le_of_ble_eq_true (qaN k2 i hi);have k3:=Nat.le_of_ble_eq_true k3;have k4:=Nat.le_of_ble_eq_true k4;have k5:=Nat.le_of_ble_eq_true k5;have k6:=Nat.le_of_ble_eq_true k6;have k7:∀ k,k<tb.length->qN c2 64 (c1+k)=false:=fun k hk=>by
  have:=qaN k7 k (List.mem_range.2 hk);simpa using this
 have k8:∀ i∈qaM e,i∈tb\/(pinned i/\qN c1 tb.length i=false/\qN c2 64 i=false):=by
  intro i hi;have:=qaN k8 i hi;simp only[Bool.or_eq_true,Bool.and_eq_true,Bool.not_eq_true']at this;exact this.imp qbr.1 fun h=>⟨⟨Nat.le_of_ble_eq_true h.1.1.1,Nat.le_of_ble_eq_true h.1.1.2⟩,h.1.2,h.2⟩
 have k9:∀ i∈zz h,qN c1 tb.length i=false:=fun i hi=>by simpa using qaN k9 i hi
 have htbr:∀ i∈tb,qN c1 tb.length i=false:=fun i hi=>by
  cases hr:qN c1 tb.length i with
  | false=>rfl
  | true=>rw[qac]at hr;have:=htb6 i hi;omega
 have hdu:∀ i,qN c1 tb.length i=false->dnR c1 tb (upR c1 tb i)=i:=by
  intro i hi;by_cases hm:i∈tb
  ·obtain⟨k,hk⟩:=List.mem_iff_getElem?.1 hm
   rw[qrB htb hk,qrA hk]
  ·rw[qia hm,qkv hi]
 have hud:∀ i,i∉tb->upR c1 tb (dnR c1 tb i)=i:=by
  intro i hi
  cases hr:qN c1 tb.length i with
  | false=>rw[qkv hr,qia hi]
  | true=>
   rw[qac]at hr;obtain⟨k,hk⟩:∃ k,i=c1+k:=⟨i-c1,by omega⟩;obtain⟨y,hy⟩:∃ y,tb[k]?=some y:=⟨_,List.getElem?_eq_getElem (by omega)⟩;rw[hk,qrA hy,qrB htb hy]
 have henv1:∀ i∈qaM e,qN c1 tb.length i=false:=fun i hi=>(k8 i hi).elim (htbr i) (fun h=>h.2.1);have hE:∀ i∈qaM (qqz (upR c1 tb) e),pinned i/\qN c2 64 i=false:=by
  have hren:∀ (e:Env),∀ i∈qaM (qqz (upR c1 tb) e),∃ j∈qaM e,i=upR c1 tb j:=by
   intro e
   induction e with
   | nil=>intro i hi;cases hi
   | cons kv r ih=>
    obtain⟨k,v⟩:=kv;intro i hi;rcases List.mem_append.1 hi with hi|hi
    ·obtain⟨j,hj,rfl⟩:=qib v i hi
     exact⟨j,List.mem_append.2 (.inl hj),rfl⟩
    ·obtain⟨j,hj,rfl⟩:=ih i hi
     exact⟨j,List.mem_append.2 (.inr hj),rfl⟩
  intro i hi;obtain⟨j,hj,rfl⟩:=hren e i hi;rcases k8 j hj with hm|⟨h1,h2,h3⟩
  ·obtain⟨k,hk⟩:=List.mem_iff_getElem?.1 hm
   have hlt:=(List.getElem?_eq_some_iff.1 hk).1;rw[qrB htb hk];exact⟨by unfold pinned;omega,k7 k hlt⟩
  ·have:j∉tb:=fun hm=>by have:=htb6 j hm;unfold pinned at h1;omega
   rw[qia this];exact⟨h1,h3⟩
 obtain⟨lc,hev,hcap⟩:=hg.opnd hgv;have hI1:(I x0).1=qci (upR c1 tb) h:=by rw[hI]
 have hI2:(I x0).2=s:=by rw[hI]
 refine wpIn_rangeFunc fun fn _=>?_;have enter:∃ (base:Go.Loop) (l:Nat) (mk:List Nat) (W1:World),(Instr.enterLoop fn aa.tmps ps a b r).run P w = .ok (l,mk.map mark) W1/\(base.params=ps/\base.assign=a/\base.body=b/\base.tmps=aa.tmps/\base.state = .ready/\base.pending=none) /\
   W1.heap[l]?=some (.loop base)/\w.heap.size<=l/\(∀ x,x<w.heap.size->W1.heap[x]?=w.heap[x]?)/\Tr F w F W1/\w.heap.size<=W1.heap.size/\mk.Nodup /\ ∀ x∈mk,w.heap.size<=x/\W1.heap[x]?=some (.deferred (some [])):=by
  cases r with
  | none=>
   refine⟨{ state:=.ready,pending:=none,fn,tmps:=aa.tmps,params:=ps,assign:=a,body:=b,defers:=w.heap.size },_,[w.heap.size],_,run_enterLoop_outer fn aa.tmps ps a b,⟨rfl,rfl,rfl,rfl,rfl,rfl⟩,?_,by omega,fun x hx=>?_,Tr.trans (Tr.alloc hg.heap.fresh _) (Tr.alloc (fun b hb=>hg.heap.fresh b (by simp at hb;omega)) _),by simp;omega,by simp,fun x hx=>?_⟩
   ·have:=World.alloc_heap_new (w.alloc (.deferred (some []))) (.loop { state:=.ready,pending:=none,fn,tmps:=aa.tmps,params:=ps,assign:=a,body:=b,defers:=w.heap.size })
    rwa [World.size_alloc]at this
   ·rw[heap_alloc_old _ _ (by simp;omega),heap_alloc_old _ _ hx]
   ·rw[List.mem_singleton]at hx
    subst hx;exact⟨Nat.le_refl _,by rw[heap_alloc_old _ _ (by simp)];exact World.alloc_heap_new w _⟩
  | some l0=>
   obtain⟨lp,⟨q1,_⟩,_⟩:=hg.lk l0 rfl;refine⟨{ state:=.ready,pending:=none,fn,tmps:=aa.tmps,params:=ps,assign:=a,body:=b,defers:=lp.defers },_,[],_,run_enterLoop_inner q1 fn aa.tmps ps a b,⟨rfl,rfl,rfl,rfl,rfl,rfl⟩,World.alloc_heap_new w _,Nat.le_refl _,fun x hx=>heap_alloc_old _ _ hx,Tr.alloc hg.heap.fresh _,by simp,List.nodup_nil,fun x hx=>by cases hx⟩
 obtain⟨base,l,mk,W1,hent,⟨hb1,hb2,hb3,hb4,hb5,hb6⟩,hl,hlw,hold,tr1,hsz1,hmn,hmk⟩:=enter;have hg1:=hg.onward tr1 (fun x hx=>⟨hold x hx,rfl⟩) (fun x hx=>hg.heap.fresh x (Nat.le_trans hsz1 hx));have hrl:r≠some l:=by
  rintro rfl;obtain⟨lp,⟨q1,_⟩,_⟩:=hg.lk l rfl;have:=za q1;omega
 let L1:Loc:=⟨fun j=>L.ρ (dnR c1 tb j),fun j=>L.κ (dnR c1 tb j)⟩
 have hL1:∀ i,qN c1 tb.length i=false->L1.ρ (upR c1 tb i)=L.ρ i/\L1.κ (upR c1 tb i)=L.κ i:=fun i hi=>by
  show L.ρ (dnR c1 tb (upR c1 tb i))=L.ρ i/\L.κ (dnR c1 tb (upR c1 tb i))=L.κ i;rw[hdu i hi];exact⟨rfl,rfl⟩
 have hnC:∀ x,w.heap.size<=x->¬ cx.C s x:=fun x hx hC=>by have:=hg.heap.csz x hC;omega
 have hbase:qdV base (RS.go x0:RS α σ)=base:=by
  cases base;simp only at hb5 hb6;subst hb5;subst hb6;rfl
 have hHG:RInv cx I l (mk++m) r base (qqz (upR c1 tb) e) aa.tmps c2 tb L1.ρ L1.κ F W1 (.go x0,L1) W1 F:=by
  refine⟨?_,⟨by rw[hbase];exact hl,by show ¬ cx.C (I x0).2 l;rw[hI2];exact hnC l hlw⟩,fun x hx=>?_,fun l0 h0=>?_,fun t v ht=>?_,fun _ _=>⟨rfl,rfl⟩,Tr.refl F W1,hok0⟩
  ·show HeapOk cx L1 F (I x0).1 (I x0).2 W1
   rw[hI1,hI2];exact hg1.heap.ren fun i hi=>hL1 i (k9 i hi)
  ·show _/\¬ cx.C (I x0).2 x
   rw[hI2];rcases List.mem_append.1 hx with hx|hx
   ·exact⟨(hmk x hx).2,hnC x (hmk x hx).1⟩
   ·exact hg1.mks x hx
  ·show ∃ lp,_/\¬ cx.C (I x0).2 l0
   rw[hI2];exact hg1.lk l0 h0
  ·simp only[qqz,qQ]at ht
   cases h0:get e t with
   | none=>simp[h0]at ht
   | some v0=>
    simp[h0]at ht;subst ht;obtain⟨x,hx,hr⟩:=hg1.env t v0 h0;exact⟨x,hx,(RepV.ren (R:=upR c1 tb) (L:=L) (L':=L1) v0 x fun i hi=>hL1 i (henv1 i (qbl h0 hi))).2 hr⟩
 have hH0:HeapOk (qat cx I l (mk++m) r base (qqz (upR c1 tb) e) aa.tmps c2 tb L1.ρ L1.κ F W1) L1 F [] (.go x0,L1) W1:=by
  refine⟨hHG,fun x hx=>?_,hg1.heap.fresh,(fun _ _ h=>by cases h),(fun _ _ h=>by cases h),(fun _ _ _ _ h=>by cases h)⟩;rcases hx with hx|⟨id,o,hi,hb,hx⟩|hx|hx|hx
  ·exact hHG.heap.csz x hx
  ·rw[<- hx];exact(hHG.heap.obj id o hi).lt hb
  ·rw[hx];exact za hl
  ·exact za (hHG.mks x hx).1
  ·obtain⟨lp,⟨q1,_⟩,_⟩:=hHG.out x hx;exact za q1
 have hcall:=(hf L1).run _ (qku hT hDa hDb hY hrl hb1 hb2 hb3 hb4 ⟨hb5,hb6⟩ hps hg.tsz hca hcb ⟨k5,k6⟩ hE) L1 F (#[.func (.yield l) #[] #[]]++lc) W1 hH0 (by
  show RepVL (some l) L1 F W1 (.yld::inj caps) _;refine⟨.func (.yield l) #[] #[],lc.toList,by simp,⟨l,rfl,rfl⟩,RepVL.inj.2 (RepDL.mono tr1 caps _ hcap)⟩)
 refine⟨l,mk.map mark,W1,{ target:=.fn (.func f) lc,args:=#[.func (.yield l) #[] #[]] },W1,f,#[.func (.yield l) #[] #[]]++lc,W1,hent,?_,fun _ _=>trivial,?_,(fun h=>by cases h),?_⟩
 ·simp only[resolve,hev]
  simp[go_sem]
 ·simp[invoke,go_sem,(hf L1).enter]
 refine(qbJ hcall).mono ?_;rintro en w' ⟨x,rfl,v,h',gs,L',F',⟨rfl,hK⟩,hH,hv,tr,pin⟩;obtain⟨gg,L2⟩:=gs;obtain⟨i1,i2,i3,i4,i5,i6,i7,i8⟩:=hH.hg;have hnb:(qdV base gg).state ≠ .busy:=by cases gg<;>(intro h;cases h)
 have hend:=run_endLoop (P:=P) i2.1 hnb;obtain⟨W4,hW4⟩:∃ W4,W4=w'.putObj l (.loop { qdV base gg with state:=.exhausted }):=⟨_,rfl⟩;rw[<- hW4]at hend;have tr4:Tr F' w' F' W4:=by rw[hW4];exact Tr.ctl i2.1 (fun _ _ _ h=>by cases h) (fun _ _ h=>by cases h) (fun _ _ _ h=>by cases h)
 have hk4:∀ y,y≠l->W4.heap[y]?=w'.heap[y]?:=fun y hy=>by rw[hW4];exact World.putObj_heap_other hy
 have h4:=i1.keep tr4 (fun b hb=>i1.fresh b (Nat.le_trans tr4.size hb)) (fun b hb=>⟨hk4 b (by rintro rfl;exact i2.2 hb),rfl⟩) (fun id o hi hb=>⟨hk4 _ (fun e=>(RepO.not_ctl (i1.obj id o hi) hb (by rw[e];exact i2.1)).1 _ rfl),rfl⟩)
 let L3:Loc:=⟨fun i=>if i∈tb then L2.ρ (upR c1 tb i) else if qN c1 tb.length i then cx.pρ i else L2.ρ i,fun i=>if i∈tb then L2.κ (upR c1 tb i) else if qN c1 tb.length i then cx.pκ i else L2.κ i⟩
 have hL3:∀ i,qN c1 tb.length i=false->L3.ρ i=L2.ρ (upR c1 tb i)/\L3.κ i=L2.κ (upR c1 tb i):=by
  intro i hi;by_cases hm:i∈tb
  ·simp[L3,hm]
  ·simp[L3,hm,hi,qia hm]
 have hL3d:∀ i,i∉tb->L3.ρ (dnR c1 tb i)=L2.ρ i/\L3.κ (dnR c1 tb i)=L2.κ i:=by
  intro i hi;have:qN c1 tb.length (dnR c1 tb i)=false:=by
   cases hr:qN c1 tb.length i with
   | false=>rw[qkv hr];exact hr
   | true=>
    rw[qac]at hr;obtain⟨k,hk⟩:∃ k,i=c1+k:=⟨i-c1,by omega⟩;obtain⟨y,hy⟩:∃ y,tb[k]?=some y:=⟨_,List.getElem?_eq_getElem (by omega)⟩;rw[hk,qrA hy];exact htbr y (List.mem_of_getElem? hy)
  obtain⟨q1,q2⟩:=hL3 _ this;rw[hud i hi]at q1 q2;exact⟨q1,q2⟩
 have hok':=qhd i8;have hgood:Good cx r (mk++m) L3 F' ⟨e,qci (dnR c1 tb) (gg.heap I),gg.st I⟩ { aa with defers:=mk.map mark++aa.defers } W4:=by
  refine⟨h4.ren fun i hi=>hL3d i (hok' i hi).2,fun t v ht=>?_,?_,fun x hx=>?_,?_,fun l0 h0=>?_,fun i hi=>?_,hg.tsz⟩
  ·obtain⟨x,hx,hr⟩:=i5 t (mapId (qlJ (upR c1 tb)) v) (by
    have ht:get e t=some v:=ht;simp only[qqz,qQ,ht];rfl)
   refine⟨x,hx,RepV.mono tr4 v x (fun _ _=>⟨rfl,rfl⟩) ((RepV.ren (R:=upR c1 tb) (L:=L3) (L':=L2) v x fun i hi=>?_).1 hr)⟩;obtain⟨q1,q2⟩:=hL3 i (henv1 i (qbl ht hi));exact⟨q1.symm,q2.symm⟩
  ·show mk.map mark++aa.defers=(mk++m).map mark++cx.base
   rw[hg.dfr,List.map_append,List.append_assoc]
  ·obtain⟨q1,q2⟩:=i3 x hx
   exact⟨by rw[hk4 x (by rintro rfl;rw[i2.1]at q1;cases q1)];exact q1,q2⟩
  ·rw[List.nodup_append]
   refine⟨hmn,hg.mnd,fun x hx y hy e=>?_⟩;have h1:=(hmk x hx).1;have h2:=za (hg.mks y hy).1;omega
  ·obtain⟨lp,⟨q1,q2⟩,q3⟩:=i4 l0 h0
   exact⟨lp,⟨by rw[hk4 l0 (by rintro rfl;exact hrl h0)];exact q1,q2⟩,q3⟩
  ·have hm:i∉tb:=fun hm=>by have:=htb6 i hm;unfold pinned at hi;omega
   cases hr:qN c1 tb.length i with
   | true=>simp[L3,hm,hr]
   | false=>
    obtain⟨q1,q2⟩:=hL3 i hr;rw[qia hm]at q1 q2;obtain⟨q3,q4⟩:=i6 i hi;have q5:L1.ρ i=L.ρ i/\L1.κ i=L.κ i:=by
     show L.ρ (dnR c1 tb i)=L.ρ i/\L.κ (dnR c1 tb i)=L.κ i;rw[qkv hr];exact⟨rfl,rfl⟩
    obtain⟨q6,q7⟩:=hg.pin i hi;exact⟨q1.trans (q3.trans (q5.1.trans q6)),q2.trans (q4.trans (q5.2.trans q7))⟩
 have trw:Tr F w F' W4:=Tr.trans tr1 (Tr.trans tr tr4);refine⟨_,W4,hend,?_⟩
 cases gg with
 | go x=>
  exact .inl ⟨.normal,_,mk++m,L3,F',rfl,hK,hgood,trw,rfl⟩
 | done ex hd s'=>
  cases ex with
  | normal=>exact wpIn_skip (.inl ⟨.normal,_,mk++m,L3,F',rfl,hK,hgood,trw,rfl⟩)
  | ret=>exact wpIn_ret (.inl ⟨.ret,_,mk++m,L3,F',rfl,hK,hgood,trw,rfl⟩)
  | exit i=>exact wpIn_exit (.inl ⟨.exit i,_,mk++m,L3,F',rfl,hK,hgood,trw,rfl⟩)
end
end Go.PX
namespace Go.PX
open Go.RowKit
def iterate{γ:Type}(Y:Hd γ):List (List V×Heap)->γ->(γ->Prop)->Prop
 | [],g,Q=>Q g
 | (args,h)::r,g,Q=>Y.y args h g fun v h' g'=>h'=h/\((v = .d (.bool true)/\iterate Y r g' Q)\/(v = .d (.bool false)/\Q g'))
def Yields(P:Program)(f:FuncId)(caps:List D)(l:List (List V×Heap)):Prop:=
 ∀ {γ:Type} (Y:Hd γ) (g:γ) (Q:γ->Prop),iterate Y l g Q->FnC P Y f (.yld::inj caps) [] g fun v h' g'=>h' = []/\Q g'
theorem qen{γ:Type}{Y:Hd γ}:∀ (l:List (List V×Heap)),iterate Y.np l=iterate Y l
 | []=>rfl
 | x::r=>by
  funext g Q
  show(Y.y x.1 x.2 g fun v h' g'=>h'=x.2/\((v = .d (.bool true)/\iterate Y.np r g' Q)\/(v = .d (.bool false)/\Q g')))=_;rw[qen r];rfl
theorem iterate.np{γ:Type}{Y:Hd γ}{l:List (List V×Heap)}{g:γ}{Q:γ->Prop}(h:iterate Y l g Q):iterate Y.np l g Q:=by rw[qen];exact h
section
variable {P : Program} {T : Tys} {ft : FT} {α σ : Type} {Y : Hd σ}
def qwD(tb:List Nat)(h:Heap):Heap:=match tb with
 | []=>[]
 | i::r=>match get h i with
  | some o=>(i,o)::qwD r h
  | none=>qwD r h
theorem qhe{h:Heap}{k:Nat}{v:Obj}:∀ {tb:List Nat},get (qwD tb h) k=some v->get h k=some v
 | [],hk=>by cases hk
 | i::r,hk=>by
  rw[qwD]at hk;split at hk
  ·rename_i o ho
   rw[qI]at hk;split at hk
   ·rename_i e
    subst e;rw[ho];exact hk
   ·exact qhe hk
  ·exact qhe hk
def qwm(tb:List Nat)(z:Heap):Heap->Heap
 | []=>z
 | (i,o)::r=>match tb.any fun k=>Nat.beq k i with
  | true=>qwm tb z r
  | false=>(i,o)::qwm tb z r
theorem qoG{tb:List Nat}{z:Heap}{k:Nat}:∀ {h:Heap},get (qwm tb z h) k=if (tb.any fun i=>Nat.beq i k)=true then get z k else (match get h k with
 | some v=>some v
 | none=>get z k)
 | []=>by simp[qwm,get]
 | (i,o)::r=>by
  have ih:=qoG (tb:=tb) (z:=z) (k:=k) (h:=r);rw[qwm];split
  ·rename_i hi
   rw[ih,qI];by_cases hk:(tb.any fun j=>Nat.beq j k)=true
   ·rw[if_pos hk,if_pos hk]
   ·rw[if_neg hk,if_neg hk,if_neg (fun e=>hk (by rw[e];exact hi))]
  ·rename_i hi
   rw[qI,qI];by_cases e:k=i
   ·subst e
    rw[if_pos rfl,if_pos rfl,if_neg (by rw[hi];simp)]
   ·rw[if_neg e,if_neg e,ih]
def qwE(tb:List Nat)(h:Heap):Heap:=qwm tb (qwD tb h) h
theorem qty{h:Heap}{k:Nat}{v:Obj}{tb:List Nat}(hk:get (qwE tb h) k=some v):get h k=some v:=by
 unfold qwE at hk;rw[qoG]at hk;split at hk
 ·exact qhe hk
 ·split at hk
  ·rename_i he;rw[he];exact hk
  ·exact qhe hk
theorem Wk.ord{e:Env}{h:Heap}{s:σ}(tb:List Nat):Wk (⟨e,h,s⟩:St σ) ⟨e,qwE tb h,s⟩:=
 fun cx r m L F a w hg=>⟨L,F,hg.sub (fun _ _ hv=>hv) (fun _ _ hv=>qty hv),Tr.refl F w⟩
theorem qlS(hT:qU P T){g:Operand}{ps:Array Tmp}{a b:Code}(hDa:zS P T ft a)(hDb:zS P T ft b){f:FuncId}{caps:List D}{e:Env}{h:Heap}{s:σ}{K:AExit->St σ->Prop}(hgv:opnd e g=some (.d (.clo f caps)))
  (c1 c2:Nat) (tb:List Nat) {β:Type} {items:List β} {arg:β->List V} {hp:β->Heap} (hf:Yields P f caps (items.map fun b=>(arg b,hp b)))
  (I:α->Heap×σ) (J:List β->α->Prop) (x0:α) (hck:qoF c1 c2 tb e h=true) (hI:I x0=(qci (upR c1 tb) h,s)) (hok0:okH c2 tb (I x0).1=true) (hJ0:J items x0)
  (round:∀ it rest x,J (it::rest) x -> ∀ (Q:V->Heap->RS α σ->Prop),(∀ x',J rest x'->Q (.d (.bool true)) (hp it) (.go x'))->(∀ ex hd s',K ex ⟨e,qci (dnR c1 tb) hd,s'⟩->Q (.d (.bool false)) (hp it) (.done ex hd s')) ->
   (qhY P T ft Y I ps a b (qqz (upR c1 tb) e) c2 tb).y (arg it) (hp it) (.go x) Q)
  (fin:∀ x,J [] x->K .normal ⟨e,qci (dnR c1 tb) (I x).1,(I x).2⟩):RangeA P ft Y g ps a b ⟨e,h,s⟩ K:=by
 refine qpQ hT hDa hDb hgv c1 c2 tb I x0 hck hI hok0 fun L=>hf (qrz (qhY P T ft Y I ps a b (qqz (upR c1 tb) e) c2 tb)) (RS.go x0,L) (fun g=>match g.1 with
   | .go x=>K .normal ⟨e,qci (dnR c1 tb) (I x).1,(I x).2⟩
   | .done ex hd s'=>K ex ⟨e,qci (dnR c1 tb) hd,s'⟩) ?_
 have key:∀ (l:List β) (x:α) (L:Loc),J l x->iterate (qrz (qhY P T ft Y I ps a b (qqz (upR c1 tb) e) c2 tb)) (l.map fun b=>(arg b,hp b))  (RS.go x,L) (fun g=>match g.1 with
   | .go x=>K .normal ⟨e,qci (dnR c1 tb) (I x).1,(I x).2⟩
   | .done ex hd s'=>K ex ⟨e,qci (dnR c1 tb) hd,s'⟩):=by
  intro l
  induction l with
  | nil=>exact fun x L hj=>fin x hj
  | cons it rest ih=>
   intro x L hj
   exact round it rest x hj (fun v h' g'=>∀ L',h'=hp it/\((v = .d (.bool true)/\iterate (qrz (qhY P T ft Y I ps a b (qqz (upR c1 tb) e) c2 tb)) (rest.map fun b=>(arg b,hp b)) (g',L') (fun g=>match g.1 with
   | .go x=>K .normal ⟨e,qci (dnR c1 tb) (I x).1,(I x).2⟩
   | .done ex hd s'=>K ex ⟨e,qci (dnR c1 tb) hd,s'⟩))\/(v = .d (.bool false)/\(match g' with
   | .go x=>K .normal ⟨e,qci (dnR c1 tb) (I x).1,(I x).2⟩
   | .done ex hd s'=>K ex ⟨e,qci (dnR c1 tb) hd,s'⟩)))) (fun x' hj' L'=>⟨rfl,.inl ⟨rfl,ih x' L' hj'⟩⟩) (fun ex hd s' hk L'=>⟨rfl,.inr ⟨rfl,hk⟩⟩)
 exact key items x0 L hJ0
theorem qnp(hT:qU P T){g:Operand}{ps:Array Tmp}{a b:Code}(hDa:zS P T ft a)(hDb:zS P T ft b){f:FuncId}{caps:List D}{e:Env}{h:Heap}{s:σ}{K:AExit->St σ->Prop}(hgv:opnd e g=some (.d (.clo f caps)))
  (c1 c2:Nat) (tb:List Nat) {β:Type} {items:List β} {arg:β->List V} {hp:β->Heap} (hf:Yields P f caps (items.map fun b=>(arg b,hp b)))
  (I:α->Heap×σ) (J:List β->α->Prop) (x0:α) (hck:qoF c1 c2 tb e (qwE tb h)=true) (hI:I x0=(qci (upR c1 tb) (qwE tb h),s)) (hok0:okH c2 tb (I x0).1=true) (hJ0:J items x0)
  (round:∀ it rest x,J (it::rest) x -> ∀ (Q:V->Heap->RS α σ->Prop),(∀ x',J rest x'->Q (.d (.bool true)) (hp it) (.go x'))->(∀ ex hd s',K ex ⟨e,qci (dnR c1 tb) hd,s'⟩->Q (.d (.bool false)) (hp it) (.done ex hd s')) ->
   (qhY P T ft Y I ps a b (qqz (upR c1 tb) e) c2 tb).y (arg it) (hp it) (.go x) Q)
  (fin:∀ x,J [] x->K .normal ⟨e,qci (dnR c1 tb) (I x).1,(I x).2⟩):RangeA P ft Y g ps a b ⟨e,h,s⟩ K:=RangeA.wk (Wk.ord tb) (qlS hT hDa hDb hgv c1 c2 tb hf I J x0 hck hI hok0 hJ0 round fin)
end
end Go.PX
namespace Go.PX
theorem qt{α:Type}{l:List α}{f:α->List D}{i:Nat}{x:α}{K:List D->Prop}(hx:l[i]?=some x)(k:K (f x)):qpj (l.map f) (i:Int) K:=
 qK (f x) (by simp[hx]) k
theorem qy{g:Nat->Option DO}{v:V}{r:List V}{d:D}{l:List D}(h1:jU g v=some d)(h2:zY g r=some l):zY g (v::r)=some (d::l):=by
 rw[zY,h1,h2]
theorem js{h:Heap}{k id sz n:Nat}{es:List (List D)}(hg:get h id=some (.arr sz (.dd es)))(hn:n=es.length):jU (qcv h (k+1)) (.sl id sz 0 n)=some (.vs es):=by
 have h1:Nat.beq sz sz=true:=Nat.beq_refl sz;have h2:Nat.ble (0+es.length) es.length=true:=Nat.ble_eq_true_of_le (by omega);subst hn;simp only[jU,qcv,hg,h1,h2,List.drop_zero,List.take_length]
section
variable {P : Program} {T : Tys} {σ : Type} {Y : Hd σ}
theorem qrC{ft:FT}{c:Code}{α:Type}(I:α->St σ)(Pr:α->Prop)(μ:α->Nat)(x0:α){st:St σ}{K:AExit->St σ->Prop}(h0:Wk st (I x0))(p0:Pr x0)
  (round:∀ x,Pr x->WPC P Y c (I x) fun e st'=>match e with
   | .normal=>∃ y,μ y<μ x/\Pr y/\Wk st' (I y)
   | e=>K e st'):LoopA P ft Y c st K:=by
 refine⟨WPC.wk h0 ?_⟩;intro cx hY r m0 L0 F0 a w hg hc;have hc:jm a.tmps.size c=true:=hc
 let J:Act->World->α->Prop:=fun a' w' x=>Pr x /\ ∃ m L F,Good cx r m L F (I x) a' w'/\Tr F0 w F w'/\a'.tmps.size=a.tmps.size
 let M:Act->World->Nat:=fun a' w'=>qpP fun n=>∃ x,J a' w' x/\μ x=n
 refine wpIn_loop (fun a' w'=>∃ x,J a' w' x) M ⟨x0,p0,m0,L0,F0,hg,Tr.refl F0 w,rfl⟩ fun a' w' hJ=>?_;obtain⟨x,⟨hp,m,L,F,hg',tr,hs⟩,hx⟩:=qlO (p:=fun n=>∃ x,J a' w' x/\μ x=n) (by obtain⟨x,hx⟩:=hJ;exact⟨μ x,x,hx,rfl⟩);refine wpIn_mono (round x hp cx hY r m L F a' w' hg' (by rw[hs];exact hc)) fun ex a'' w'' hq=>?_;rcases hq with⟨e',st1,m1,L1,F1,rfl,h2,h3,h4,h5⟩|hpn
 case inr=>
  have hpn':=hpn;obtain⟨v,pe,ph,ps,m',L',F',rfl,_⟩:=hpn;exact .inr (hpn'.trans tr hs)
 cases e' with
 | normal=>
  obtain⟨y,hy,hpy,hwk⟩:=h2;obtain⟨L2,F2,hg2,tr2⟩:=hwk cx r m1 L1 F1 a'' w'' h3;have hJy:J a'' w'' y:=⟨hpy,m1,L2,F2,hg2,Tr.trans tr (Tr.trans h4 tr2),h5.trans hs⟩;refine⟨⟨y,hJy⟩,?_⟩;have:M a'' w''<=μ y:=qoA ⟨y,hJy,rfl⟩;have hx:μ x=M a' w':=hx;omega
 | exit i=>exact .inl ⟨.exit i,st1,m1,L1,F1,rfl,h2,h3,Tr.trans tr h4,h5.trans hs⟩
 | ret=>exact .inl ⟨.ret,st1,m1,L1,F1,rfl,h2,h3,Tr.trans tr h4,h5.trans hs⟩
theorem WPC.mono{c:Code}{st:St σ}{K1 K2:AExit->St σ->Prop}(hw:WPC P Y c st K1)(h:∀ e st,K1 e st->K2 e st):WPC P Y c st K2:=by
 intro cx hY r m L F a w hg hc;refine wpIn_mono (hw cx hY r m L F a w hg hc) fun ex a' w' hq=>?_;rcases hq with⟨e',st',m',L',F',h1,h2,h3⟩|hp
 ·exact .inl ⟨e',st',m',L',F',h1,h _ _ h2,h3⟩
 ·exact .inr hp
theorem zd(hT:qU P T){ft:FT}{c:Code}(hD:zS P T ft c){α β:Type}(l:List α)(I:Nat->β->St σ)(J:Nat->List α->β->Prop)(x0:β){st:St σ}{K:AExit->St σ->Prop}(h0:Wk st (I 0 x0))(j0:J 0 l x0)
  (round:∀ (i:Nat) (x:α) (r:List α) (acc:β),l[i]?=some x->i<l.length->i+1+r.length=l.length->J i (x::r) acc->wpA P T ft Y c (I i acc) fun e st'=>match e with
   | .normal=>∃ acc',J (i+1) r acc'/\Wk st' (I (i+1) acc')
   | e=>K e st')
  (fin:∀ acc,J l.length [] acc->wpA P T ft Y c (I l.length acc) fun e st'=>match e with
   | .normal=>False
   | e=>K e st'):LoopA P ft Y c st K:=by
 refine qrC (α:=Nat×β) (fun p=>I p.1 p.2) (fun p=>p.1<=l.length/\J p.1 (l.drop p.1) p.2) (fun p=>l.length+1-p.1) (0,x0) h0 ⟨Nat.zero_le _,by simpa using j0⟩ ?_;rintro ⟨i,acc⟩ ⟨hi,hj⟩;simp only at hi hj ⊢;by_cases hlt:i<l.length
 ·have hd:l.drop i=l[i]::l.drop (i+1):=List.drop_eq_getElem_cons hlt
  rw[hd]at hj;refine WPC.mono (zM hT c hD _ _ (round i l[i] (l.drop (i+1)) acc (List.getElem?_eq_getElem hlt) hlt (by simp;omega) hj)) fun e st' hk=>?_
  cases e with
  | normal=>
   obtain⟨acc',h1,h2⟩:=hk;exact⟨(i+1,acc'),by simp only;omega,⟨hlt,h1⟩,h2⟩
  | exit i=>exact hk
  | ret=>exact hk
 ·have he:i=l.length:=by omega
  subst he;rw[List.drop_length]at hj;refine WPC.mono (zM hT c hD _ _ (fin acc hj)) fun e st' hk=>?_
  cases e with
  | normal=>exact hk.elim
  | exit i=>exact hk
  | ret=>exact hk
end
end Go.PX
namespace Go.PX
open Go.RowKit
section
variable {σ : Type}
theorem Wk.reobj{e:Env}{h:Heap}{s:σ}(id:Nat){o:Obj}(o':Obj)(hg:get h id=some o)(hr:∀ (yv:Option Nat) (L:Loc) (F:Nat->Nat) (w:World),RepO yv L F w id o->RepO yv L F w id o')(hb:∀ L,Backed L id o'->Backed L id o) :
  Wk (⟨e,h,s⟩:St σ) ⟨e,put h id o',s⟩:=by
 intro cx r m L F a w hh;have key:∀ i q,get (put h id o') i=some q->(i=id/\q=o')\/get h i=some q:=by
  intro i q hi;rw[jq]at hi;split at hi
  ·rename_i e1;cases hi;exact .inl ⟨e1,rfl⟩
  ·exact .inr hi
 refine⟨L,F,⟨⟨hh.heap.hg,hh.heap.csz,hh.heap.fresh,fun i q hi=>?_,fun i q hi hbk=>?_,fun i j q p hi hj hbi hbj e=>?_⟩,hh.env,hh.dfr,hh.mks,hh.mnd,hh.lk,hh.pin,hh.tsz⟩,Tr.refl F w⟩
 ·rcases key i q hi with⟨rfl,rfl⟩|hi
  ·exact hr _ _ _ _ (hh.heap.obj i o hg)
  ·exact hh.heap.obj i q hi
 ·rcases key i q hi with⟨rfl,rfl⟩|hi
  ·exact hh.heap.own i o hg (hb L hbk)
  ·exact hh.heap.own i q hi hbk
 ·rcases key i q hi with⟨e1,e2⟩|hi1<;>rcases key j p hj with⟨e3,e4⟩|hj1
  ·rw[e1,e3]
  ·subst e1;subst e2
   exact hh.heap.inj _ _ _ _ hg hj1 (hb L hbi) hbj e
  ·subst e3;subst e4
   exact hh.heap.inj _ _ _ _ hi1 hg hbi (hb L hbj) e
  ·exact hh.heap.inj _ _ _ _ hi1 hj1 hbi hbj e
theorem Wk.shrink{e:Env}{h:Heap}{s:σ}(id n:Nat){sz:Nat}{es:List (List D)}(hg:get h id=some (.arr sz (.dd es))):Wk (⟨e,h,s⟩:St σ) ⟨e,put h id (.arr sz (.dd (es.take n))),s⟩:=by
 refine Wk.reobj id _ hg (fun yv L F w h=>?_) fun L hb=>hb;obtain⟨h1,h2,h3⟩:=h;have hlen:zL sz (ze (es.take n)):=by
  intro x hx;rw[qZ,List.mem_map]at hx;obtain⟨y,hy,rfl⟩:=hx;exact h2 _ (by rw[show(Els.dd es).toV=ze es from rfl,qZ];exact List.mem_map_of_mem (List.mem_of_mem_take hy))
 refine⟨h1,hlen,?_⟩;rcases h3 with⟨h3,h4⟩|⟨c,T,hc,k1,k2,k3⟩
 ·left
  have:es = []:=by
   have:ze es = []:=h3
   cases es with
   | nil=>rfl
   | cons a l=>cases this
  subst this;exact⟨by simp[Els.toV,ze],h4⟩
 ·right
  have e1:(Els.dd es).toV=ze es:=rfl;have e2:(Els.dd (es.take n)).toV=(ze es).take n:=by show ze (es.take n)=_;rw[qZ,qZ,List.map_take]
  have e3:((ze es).take n).length<=(ze es).length:=by simp;omega
  rw[e1]at k2 k3;refine⟨c,T,hc,k1,?_,?_⟩
  ·rw[e2];exact Nat.le_trans (Nat.mul_le_mul_right _ e3) k2
  ·rw[e2]
   have:=RepVL.take (((ze es).take n).length*sz) k3;rw[List.take_take]at this;have hmin:min (((ze es).take n).length*sz) ((ze es).length*sz)=((ze es).take n).length*sz:=Nat.min_eq_left (Nat.mul_le_mul_right _ e3);rw[hmin]at this;have hl:zL sz (ze es):=h2;have hf:(ze es).flatten.take (((ze es).take n).length*sz)=((ze es).take n).flatten:=by
    have:=qay (sz:=sz) n hl;rw[this];simp only[List.length_take];by_cases hn:n<=(ze es).length
    ·rw[Nat.min_eq_left hn]
    ·rw[Nat.min_eq_right (by omega),List.take_of_length_le (by rw[qbP hl];exact Nat.le_refl _),List.take_of_length_le (by rw[qbP hl];exact Nat.mul_le_mul_right _ (by omega))]
   rw[hf]at this;exact this
theorem Wk.bornBox{e:Env}{h:Heap}{s:σ}(b k sz:Nat)(hk:Nat.blt k 1000000=true)(hs:Nat.blt 0 sz=true)(hb:get h b=some (.box (.dd [.nils])))(hbk:Nat.beq b k=false) :
  Wk (⟨e,h,s⟩:St σ) ⟨jT (mapId (qz k)) e,put (((k,.arr sz (.dd []))::jT (Obj.mapId (qz k)) (cut h k))) b (.box (.vv [.sl k sz 0 0])),s⟩:=by
 have hk:=Nat.le_of_ble_eq_true hk;have hs:=Nat.le_of_ble_eq_true hs;have hne:b≠k:=by rintro rfl;simp at hbk
 have h1:Wk (⟨e,h,s⟩:St σ) ⟨jT (mapId (qz k)) e,((k,.arr sz (.dd []))::jT (Obj.mapId (qz k)) (cut h k)),s⟩:=by
  intro cx r m L F a w hg;exact⟨_,F,hg.newEmpty k sz (by unfold pinned;omega) hs (.dd []) rfl,Tr.refl F w⟩
 refine h1.trans (Wk.reobj b (o:=.box (.dd [.nils])) _ (by rw[qI,if_neg hne,qQ,zZ,if_neg hne,hb];rfl) (fun yv L F w h=>?_) fun L hb=>hb);obtain⟨c,T,hc,x,l',hl,hx,hr⟩:=h;have hx:x = .slice none 0 0:=hx;subst hx;exact⟨c,T,hc,_,l',hl,⟨none,0,rfl,Nat.le_refl _,hs,.inl ⟨rfl,rfl⟩⟩,hr⟩
end
theorem qn{k:IntKind}{n:Int}{K:V->Prop}(m:Int)(h:n=m)(hw:k.wrap m=m)(hK:K (.d (.int k m))):arith k n K:=by subst h;exact qe hw hK
section
variable {P : Program} {T : Tys} {σ : Type} {Y : Hd σ}
theorem qkw{f:FuncId}{args0:List V}{h0:Heap}{s:σ}{Q:V->Heap->σ->Prop}(hf:FnC P Y f args0 h0 s Q)(tb:List Nat){e:Env}{h:Heap}{d:Option Nat}{args:List V}{K:St σ->Prop}
  (hargs:qpJ (qaE tb (d.getD 0)) args0=args) (hlent:qcF (qaE tb (d.getD 0)) h 1000000 tb h0) (htb:qcm tb=true) (hln:Nat.ble tb.length 1000=true)
  (hq:∀ v h1 s',Q v h1 s'->qbU tb d v h1=true/\qP (zN tb d v h1) e h fun e h=>K ⟨e,h,s'⟩):CallA P Y ⟨e,h,s⟩ d f args K:=by
 refine qtv hf tb hargs hlent htb hln fun v h1 s' hv=>?_;obtain⟨h2,h3⟩:=hq v h1 s' hv;refine⟨h2,?_⟩;rw[zy s']at h3;have hs:(qx (⟨e,h,s'⟩:St σ) (zN tb d v h1)).s=s':=jb _ _;generalize qx (⟨e,h,s'⟩:St σ) (zN tb d v h1)=st at h3 hs;obtain⟨e1,h1,s1⟩:=st;simp only at hs;subst hs;exact h3
end
mutual
def qgi:V->V->Prop
 | .d a,.d b=>a=b
 | .agg a,.agg b=>qjn a b
 | .tup a,.tup b=>qjn a b
 | .clo f a,.clo g b=>f=g/\qjn a b
 | .ptr i o,.ptr j p=>Nat.beq i j=true/\o=p
 | .ep i s k o,.ep j t l p=>Nat.beq i j=true/\s=t/\k=l/\o=p
 | .sl i s o n,.sl j t p m=>Nat.beq i j=true/\s=t/\o=p/\n=m
 | .mp i,.mp j=>Nat.beq i j=true
 | .it i,.it j=>Nat.beq i j=true
 | .yld,.yld=>True
 | .unk,.unk=>True
 | _,_=>False
def qjn:List V->List V->Prop
 | [],[]=>True
 | a::r,b::s=>qgi a b/\qjn r s
 | _,_=>False
end
mutual
theorem qtz:∀ (a b:V),qgi a b->a=b
 | .d a,b,h=>by cases b<;>simp only[qgi]at h;rw[h]
 | .agg a,b,h=>by cases b<;>simp only[qgi]at h;rw[qdX _ _ h]
 | .tup a,b,h=>by cases b<;>simp only[qgi]at h;rw[qdX _ _ h]
 | .clo f a,b,h=>by cases b<;>simp only[qgi]at h;rw[h.1,qdX _ _ h.2]
 | .ptr i o,b,h=>by cases b<;>simp only[qgi]at h;rw[Nat.eq_of_beq_eq_true h.1,h.2]
 | .ep i s k o,b,h=>by cases b<;>simp only[qgi]at h;rw[Nat.eq_of_beq_eq_true h.1,h.2.1,h.2.2.1,h.2.2.2]
 | .sl i s o n,b,h=>by cases b<;>simp only[qgi]at h;rw[Nat.eq_of_beq_eq_true h.1,h.2.1,h.2.2.1,h.2.2.2]
 | .mp i,b,h=>by cases b<;>simp only[qgi]at h;rw[Nat.eq_of_beq_eq_true h]
 | .it i,b,h=>by cases b<;>simp only[qgi]at h;rw[Nat.eq_of_beq_eq_true h]
 | .yld,b,h=>by cases b<;>simp only[qgi]at h;rfl
 | .unk,b,h=>by cases b<;>simp only[qgi]at h;rfl
theorem qdX:∀ (a b:List V),qjn a b->a=b
 | [],[],_=>rfl
 | a::r,b::s,h=>by rw[qtz a b h.1,qdX r s h.2]
 | [],_::_,h=>h.elim
 | _::_,[],h=>h.elim
end
theorem zT{h:Heap}{i:Nat}{l l':List V}(h1:get h i=some (.box (.vv l)))(h2:qjn l l'):get h i=some (.box (.vv l')):=by rw[h1,qdX l l' h2]
theorem jG{σ:Type}{r:List V}{h:Heap}{s:σ}{Q:V->Heap->σ->Prop}(hr:RetA (.d (.vs [])::r) h s Q):RetA (.d .nils::r) h s Q:=by
 obtain⟨hr⟩:=hr;refine⟨fun cx L F vals w hh hv=>hr cx L F vals w hh ?_⟩;obtain⟨x,l',rfl,hx,hl⟩:=hv;have hx:x = .slice none 0 0:=hx;subst hx;exact⟨_,l',rfl,⟨none,0,0,rfl,rfl,Nat.le_refl _,fun h=>absurd rfl h⟩,hl⟩
theorem qdq{α:Type}{n:Nat}{f:α->List D}(hf:∀ x,Nat.beq (f x).length n=true/\qaW (f x)=true):∀ (l:List α),qcr n (l.map f)=true
 | []=>rfl
 | x::r=>by
  simp only[List.map_cons,qcr,(hf x).1,(hf x).2];exact qdq hf r
section
variable {P : Program} {T : Tys} {σ : Type} {Y : Hd σ}
theorem CallA.wkK{st:St σ}{d:Option Nat}{f:FuncId}{args:List V}{K:St σ->Prop}(h:CallA P Y st d f args fun st1=>∃ st2,Wk st1 st2/\K st2):CallA P Y st d f args K:=by
 obtain⟨h1,h2⟩:=h;refine⟨h1,fun cx hY r m L F a w vals hg hd hr=>(h2 cx hY r m L F a w vals hg hd hr).mono ?_⟩;rintro e w' (⟨x,rfl,st',L',F',⟨st2,hw,hk⟩,hg',tr⟩|hp);case inr=>exact .inr hp
 obtain⟨L2,F2,hg2,tr2⟩:=hw cx r m L' F' _ w' hg';exact .inl ⟨x,rfl,st2,L2,F2,hk,hg2,Tr.trans tr tr2⟩
end
theorem qvv{g:Nat->Option DO}{id sz n:Nat}{d:D}(hv:jU g (.sl id sz 0 n)=some d):repl g (.sl id sz 0 n) = .d d:=by
 simp[repl,hv]
theorem je{h:Heap}{k id sz n:Nat}{es es':List (List D)}(hg:get h id=some (.arr sz (.dd es)))(he:es=es')(hn:n=es'.length):jU (qcv h (k+1)) (.sl id sz 0 n)=some (.vs es'):=by
 subst he;exact js hg hn
end Go.PX
namespace Go.PX
theorem qcI{g:Nat->Option DO}:∀ {a:List D} {r:List V} {r':List D},zY g r=some r'->zY g (inj a++r)=some (a++r')
 | [],r,r',h=>h
 | d::a,r,r',h=>by
  show zY g (.d d::(inj a++r))=_;rw[zY,qcI h];rfl
theorem qlT{h:Heap}{n id:Nat}{l:List V}{l':List D}(hg:get h id=some (.box (.vv l)))(hl:zY (qcv h n) l=some l'):jU (qcv h (n+1)) (.ptr id 0)=some (.ref l'):=by
 simp only[jU,qcv,hg,hl,List.drop_zero]
theorem qhf{h:Heap}{n id:Nat}{kvs:List (D×D)}(hg:get h id=some (.map kvs)):jU (qcv h (n+1)) (.mp id)=some (.mv kvs):=by
 simp only[jU,qcv,hg]
theorem RepVL.nil_at{yv:Option Nat}{L:Loc}{F:Nat->Nat}{w:World}{B:List V}(k sz:Nat)(hs:0<sz):∀ {A:List V} {l:List Value},RepVL yv L F w (A ++ .d .nils::B) l->RepVL yv L F w (A ++ .sl k sz 0 0::B) l
 | [],l,h=>by
  obtain⟨x,l',rfl,hx,hr⟩:=h;have hx:x = .slice none 0 0:=hx;subst hx;exact⟨_,l',rfl,⟨none,0,rfl,Nat.le_refl _,hs,.inl ⟨rfl,rfl⟩⟩,hr⟩
 | a::A,l,h=>by
  obtain⟨x,l',rfl,hx,hr⟩:=h;exact⟨x,l',rfl,hx,RepVL.nil_at k sz hs hr⟩
theorem Wk.bornAt{σ:Type}{e:Env}{h:Heap}{s:σ}(b k sz:Nat)(A B:List V)(hk:Nat.blt k 1000000=true)(hs:Nat.blt 0 sz=true)(hb:get (jT (Obj.mapId (qz k)) (cut h k)) b=some (.box (.vv (A ++ .d .nils::B))))(hbk:Nat.beq b k=false) :
  Wk (⟨e,h,s⟩:St σ) ⟨jT (mapId (qz k)) e,put (((k,.arr sz (.dd []))::jT (Obj.mapId (qz k)) (cut h k))) b (.box (.vv (A ++ .sl k sz 0 0::B))),s⟩:=by
 have hk:=Nat.le_of_ble_eq_true hk;have hs:=Nat.le_of_ble_eq_true hs;have hne:b≠k:=by rintro rfl;simp at hbk
 have h1:Wk (⟨e,h,s⟩:St σ) ⟨jT (mapId (qz k)) e,((k,.arr sz (.dd []))::jT (Obj.mapId (qz k)) (cut h k)),s⟩:=by
  intro cx r m L F a w hg;exact⟨_,F,hg.newEmpty k sz (by unfold pinned;omega) hs (.dd []) rfl,Tr.refl F w⟩
 refine h1.trans (Wk.reobj b (o:=.box (.vv (A ++ .d .nils::B))) _ (by rw[qI,if_neg hne];exact hb) (fun yv L F w h=>?_) fun L hb=>hb);obtain⟨c,T,hc,hr⟩:=h;exact⟨c,T,hc,RepVL.nil_at k sz hs hr⟩
end Go.PX
namespace Go.PX
open Go.RowKit Go.ChangeShapes
def qqB(W:World)(b:Nat):Nat:=match W.heap[b]? with
 | some (.cells c _ _)=>c.size+1
 | some _=>1
 | none=>0
def qxS(W:World):Cx Unit where
 C:=fun _ b=>b<W.heap.size
 HG:=fun _ w F=>W.heap.size<=w.heap.size /\ ∀ b,b<W.heap.size->w.heap[b]?=W.heap[b]?
 yv:=none
 rcd:=none
 pρ:=id
 pκ:=id
 stable:=by
  rintro s w F w' F' ⟨h1,h2⟩ tr hf hk;exact⟨Nat.le_trans h1 tr.size,fun b hb=>(hk b hb).1.trans (h2 b hb)⟩
structure Still(W W':World):Prop where
 os:W'.os=W.os
 output:W'.output=W.output
 size:W.heap.size<=W'.heap.size
 heap:∀ b,b<W.heap.size->W'.heap[b]?=W.heap[b]?
theorem Still.frame{W W':World}(h:Still W W')(may:MemPlace->Prop):W.keptBut W' may:=by
 refine⟨h.os,h.output,fun i hi=>?_⟩;rw[h.heap i hi]
 cases W.heap[i]? with
 | none=>rfl
 | some o=>cases o with
  | cells c t fr=>exact⟨rfl,rfl,rfl,fun _ _=>rfl⟩
  | map es clock=>exact .inr ⟨rfl,rfl⟩
  | _=>rfl
theorem Still.sameAt{W W':World}(h:Still W W'){p:MemPlace}(hp:p.block<W.heap.size):W.sameAt W' p:=by
 cases p with
 | cell b off=>
  have:=h.heap b hp;simp only[World.sameAt,World.cell?,this]
 | map b=>exact h.heap b hp
theorem Laid.still{P:Program}{W w:World}(hl:Laid P W)(hs:W.heap.size<=w.heap.size)(hk:∀ b,b<W.heap.size->w.heap[b]?=W.heap[b]?):Laid P w:=by
 have lt:∀ {g:Nat} {o:Go.Obj},W.heap[g]?=some o->w.heap[g]?=some o:=fun {g o} h=>by
  rw[hk g (Array.getElem?_eq_some_iff.1 h).1];exact h
 have cell:∀ {g:Nat} {v:Value},W.cell? ⟨g,0,none⟩=some v->w.cell? ⟨g,0,none⟩=some v:=fun {g v} h=>by
  unfold World.cell? at h ⊢;simp only at h ⊢;split at h
  ·rename_i c t f hb
   rw[lt hb];exact h
  ·cases h
 refine⟨fun g hg=>?_,fun g hg=>?_,fun g hg=>?_,fun g hg=>?_⟩
 ·have h:=hl.tab g hg
  unfold Lib.TabIs World.var? at h ⊢;rw[hg]at h ⊢;simp only[Option.bind_some]at h ⊢;split at h
  ·rename_i c t f hb
   rw[lt hb];exact h
  ·cases h
 ·obtain⟨m,h⟩:=hl.len g hg;exact⟨m,cell h⟩
 ·obtain⟨m,v,h⟩:=hl.syn g hg;exact⟨m,v,cell h⟩
 ·obtain⟨m,v,h⟩:=hl.rng g hg;exact⟨m,v,cell h⟩
theorem top{P:Program}{f:FuncId}{ds:List D}{d:D}(h:FnV P f ds d)(W:World)(hl:Laid P W)(args:Array Value)(hr:RepDL (qqB W) W ds args.toList) :
  Calls P f args W fun e W'=>∃ x,e = .returned x/\(∃ F',RepD F' W' d x)/\Still W W':=by
 have h1:=(h (σ:=Unit) { y:=fun _ _ _ _=>False } ()).run (qxS W) ⟨fun l hl=>by(cases hl),fun s w F hh=>hl.still hh.1 hh.2⟩ ⟨id,id⟩ (qqB W) args W
  ⟨⟨Nat.le_refl _,fun _ _=>rfl⟩,fun b hb=>hb,fun b hb=>by simp[qqB,Array.getElem?_eq_none hb],fun id o ho=>by simp[get]at ho,fun id o ho=>by simp[get]at ho,fun i j o p ho=>by simp[get]at ho⟩ (RepVL.inj.2 hr)
 refine callsIn_wide.1 (h1.mono ?_);rintro e W' ⟨x,rfl,v,h',s',L',F',⟨⟨rfl,rfl⟩,_⟩,hh,hx,tr,_⟩;exact⟨x,rfl,⟨F',hx⟩,tr.os,tr.output,hh.hg.1,hh.hg.2⟩
theorem qft{H:Type}{enc:TypeId×Value->H}{P:Program}{W W':World}{base:Nat}{sp:Nat->Bool}{held:Bool}:∀ {ts:List TypeId} {vs:List Value} {ds:List (DataW H)} {ps:List MemPlace},
  DataW.TrodAll enc P W base sp held ts vs ds ps->(∀ p∈ps,W.sameAt W' p)->DataW.TrodAll enc P W' base sp held ts vs ds ps
 | [],[],[],_,h,_=>h
 | _::_,_::_,_::_,_,⟨p,q,⟨n,h1⟩,h2,e⟩,hs=>⟨p,q,⟨n,DataW.trod_carry n _ _ _ h1 fun x hx=>hs x (by rw[e];exact List.mem_append_left _ hx)⟩,qft h2 (fun x hx=>hs x (by rw[e];exact List.mem_append_right _ hx)),e⟩
structure Rd(P:Program)(W:World)(t:TypeId)(S:List D->Prop):Prop where
 read:∀ {H:Type} {enc:TypeId×Value->H} {sp:Nat->Bool} {held:Bool} {fuel:Nat} {cs:List Value} {x:DataW H×List MemPlace},DataW.trod enc P W 0 sp held fuel t cs=some x -> ∃ ds,S ds/\RepDL (qqB W) W ds cs
section
variable {P : Program} {W : World} {t : TypeId}
theorem Rd.int{k:IntKind}(ht:P.underlying t=some (.int k)):Rd P W t fun ds=>∃ n,ds = [.int k n]:=by
 refine⟨?_⟩;intro H enc sp held fuel cs x h;obtain⟨n,rfl,_,_⟩:=DataW.trod_int ht h;exact⟨[.int k n],⟨n,rfl⟩,_,[],rfl,rfl,rfl⟩
theorem Rd.str(ht:P.underlying t=some .string):Rd P W t fun ds=>∃ s,ds = [.str s]:=by
 refine⟨?_⟩;intro H enc sp held fuel cs x h;obtain⟨n,rfl,_,_⟩:=DataW.trod_string ht h;exact⟨[.str n],⟨n,rfl⟩,_,[],rfl,rfl,rfl⟩
theorem Rd.mono{S S':List D->Prop}(h:Rd P W t S)(hS:∀ ds,S ds->S' ds):Rd P W t S':=by
 refine⟨?_⟩;intro H enc sp held fuel cs x hx;obtain⟨ds,h1,h2⟩:=h.read hx;exact⟨ds,hS ds h1,h2⟩
theorem qrD{b off:Nat}{v:Value}(h:W.cell? ⟨b,off,none⟩=some v):off<qqB W b:=by
 unfold World.cell? at h;unfold qqB;simp only at h;split at h
 ·rename_i c t' f hb
  rw[hb];simp only[Option.isSome_none,Bool.false_eq_true,if_false]at h;obtain⟨hlt,_⟩:=Array.getElem?_eq_some_iff.1 h;simp only;omega
 ·cases h
theorem qoH:∀ {ds:List D} {cs:List Value} {b off:Nat},RepDL (qqB W) W ds cs->(∀ i v,cs[i]?=some v->W.cell? ⟨b,off+i,none⟩=some v)->RepAt (qqB W) W b off ds
 | [],_,_,_,_,_=>trivial
 | d::r,_,b,off,h,hc=>by
  obtain⟨x,l',rfl,hd,hl⟩:=h;have h0:=hc 0 x rfl;refine⟨qrD h0,⟨x,h0,hd⟩,qoH hl fun i v hv=>?_⟩;have:=hc (i+1) v hv
  rwa [show off+(i+1)=off+1+i by omega]at this
theorem qlU{a:Addr}{k:Nat}{cs:List Value}(h:W.cells? 0 a k=some cs):cs.length=k /\ ∀ i v,cs[i]?=some v->W.cell? (a.add i)=some v:=by
 unfold World.cells? at h;rw[if_pos (Nat.zero_le _)]at h;have hl:cs.length=k:=by simpa using mapM_some_length h
 refine⟨hl,fun i v hv=>?_⟩;have hi:i<k:=by
  have:=(List.getElem?_eq_some_iff.1 hv).1;omega
 rw[mapM_some_get h i i (by simp[hi]),hv]
theorem qoI{e:TypeId}{S:List D->Prop}{b:Nat}{k:Nat}:∀ {n:Nat} {off:Nat},(∀ i,i<n -> ∃ cs ds,cs.length=k/\(∀ j v,cs[j]?=some v->W.cell? ⟨b,off+i*k+j,none⟩=some v)/\S ds/\RepDL (qqB W) W ds cs) ->
  ∃ es:List (List D),es.length=n/\(∀ e∈es,S e)/\RepEs (qqB W) W b off k es
 | 0,off,_=>⟨[],rfl,fun e h=>by(cases h),trivial⟩
 | n+1,off,h=>by
  obtain⟨cs,ds,h1,h2,h3,h4⟩:=h 0 (by omega);obtain⟨es,g1,g2,g3⟩:=qoI (e:=e) (S:=S) (n:=n) (off:=off+k) fun i hi=>by
   obtain⟨cs,ds,h1,h2,h3,h4⟩:=h (i+1) (by omega);refine⟨cs,ds,h1,fun j v hv=>?_,h3,h4⟩;have:=h2 j v hv
   rwa [show off+(i+1)*k+j=off+k+i*k+j by rw[Nat.add_mul];omega]at this
  refine⟨ds::es,by simp[g1],fun e he=>?_,?_,?_,g3⟩
  ·rcases List.mem_cons.1 he with rfl|he
   ·exact h3
   ·exact g2 e he
  ·rw[<- h4.length,h1]
  ·exact qoH h4 fun i v hv=>by simpa using h2 i v hv
theorem Rd.slice{e:TypeId}{S:List D->Prop}(ht:P.underlying t=some (.slice e)){k:Nat}(hk:P.cellsOf e=k)(hpos:0<k)(he:Rd P W e S):Rd P W t fun ds=>∃ es,ds = [.vs es] /\ ∀ e∈es,S e:=by
 subst hk;refine⟨?_⟩;intro H enc sp held fuel cs x h;rcases DataW.trod_slice ht h with⟨rfl,_⟩|⟨a,len,cap,elems,rest,n,rfl,rfl,_,_,hl,_,hlen,hel,_,_⟩
 ·exact⟨[.vs []],⟨[],rfl,fun e h=>by(cases h)⟩,_,[],rfl,⟨none,0,0,rfl,rfl,Nat.le_refl _,fun h=>absurd rfl h⟩,rfl⟩
 ·by_cases h0:len=0
  ·subst h0
   exact⟨[.vs []],⟨[],rfl,fun e h=>by(cases h)⟩,_,[],rfl,⟨some a,0,cap,rfl,rfl,hl,fun h=>absurd rfl h⟩,rfl⟩
  have one:∀ i,i<len -> ∃ cs ds,W.cells? 0 (a.add (i*P.cellsOf e)) (P.cellsOf e)=some cs/\S ds/\RepDL (qqB W) W ds cs:=by
   intro i hi;have h1:=hel i hi;rw[List.getElem?_eq_getElem (by omega)]at h1;obtain⟨cs,h2,h3⟩:=Option.bind_eq_some_iff.1 h1;obtain⟨ds,h4,h5⟩:=he.read h3;exact⟨cs,ds,h2,h4,h5⟩
  have hs:a.spot=none:=by
   obtain⟨cs,ds,h1,_,h3⟩:=one 0 (by omega);obtain⟨g1,g2⟩:=qlU h1;have hlt:0<cs.length:=by omega
   have:=g2 0 cs[0] (List.getElem?_eq_getElem hlt);have:=World.cell?_spot this;simpa[Addr.add]using this
  obtain⟨b,off,spot⟩:=a;simp only at hs;subst hs;obtain⟨es,g1,g2,g3⟩:=qoI (e:=e) (S:=S) (W:=W) (b:=b) (k:=P.cellsOf e) (n:=len) (off:=off) fun i hi=>by
   obtain⟨cs,ds,h1,h2,h3⟩:=one i hi;obtain⟨k1,k2⟩:=qlU h1;refine⟨cs,ds,k1,fun j v hv=>?_,h2,h3⟩;have:=k2 j v hv;have e1:∀ n m:Nat,(Addr.add ⟨b,n,none⟩ m)=⟨b,n+m,none⟩:=by
    intro n m;unfold Addr.add;split
    ·rename_i h;subst h;rfl
    ·rfl
   rw[e1,e1]at this;exact this
  exact⟨[.vs es],⟨es,rfl,g2⟩,_,[],rfl,⟨some ⟨b,off,none⟩,len,cap,rfl,g1.symm,hl,fun _=>⟨b,off,_,rfl,hpos,g3⟩⟩,rfl⟩
def qxT:List (List D->Prop)->List D->Prop
 | [],ds=>ds = []
 | S::r,ds=>∃ a b,ds=a++b/\S a/\qxT r b
theorem RepDL.app{F:Nat->Nat}{w:World}:∀ {a b:List D} {l m:List Value},RepDL F w a l->RepDL F w b m->RepDL F w (a++b) (l++m)
 | [],b,l,m,h1,h2=>by
  have:l = []:=h1;subst this;exact h2
 | d::a,b,l,m,h1,h2=>by
  obtain⟨x,l',rfl,hd,hl⟩:=h1;exact⟨x,l'++m,rfl,hd,RepDL.app hl h2⟩
inductive RdF(P:Program)(W:World):List Field->Nat->Nat->List (List D->Prop)->Prop where
 | nil (n:Nat):RdF P W [] n n []
 | cons {f:Field} {fs:List Field} {off n k:Nat} {S:List D->Prop} {Ss:List (List D->Prop)} (ho:f.offset=off) (hk:P.cellsOf f.type=k) (hf:Rd P W f.type S) (hr:RdF P W fs (off+k) n Ss):RdF P W (f::fs) off n (S::Ss)
theorem qtA{fs:List Field}{off n:Nat}{Ss:List (List D->Prop)}(h:RdF P W fs off n Ss):∀ {H:Type} {enc:TypeId×Value->H} {sp:Nat->Bool} {held:Bool} {fuel:Nat} {cs:List Value} {xs:List (DataW H×List MemPlace)},cs.length=n ->
  fs.mapM (fun f=>DataW.trod enc P W 0 sp held fuel f.type ((cs.drop f.offset).take (P.cellsOf f.type)))=some xs -> ∃ ds,qxT Ss ds/\RepDL (qqB W) W ds (cs.drop off):=by
 induction h with
 | nil m=>
  intro H enc sp held fuel cs xs hn _;rw[List.drop_eq_nil_of_le (by omega)];exact⟨[],rfl,rfl⟩
 | @cons f fs off m k S Ss ho hk hf hr ih=>
  intro H enc sp held fuel cs xs hn hm;rw[List.mapM_cons]at hm;simp only[Option.bind_eq_bind,Option.bind_eq_some_iff,Option.pure_def,Option.some.injEq]at hm;obtain⟨y,hy,ys,hys,_⟩:=hm;obtain⟨ds1,h1,h2⟩:=hf.read hy;obtain⟨ds2,h3,h4⟩:=ih hn hys;rw[ho,hk]at h2;refine⟨ds1++ds2,⟨ds1,ds2,rfl,h1,h3⟩,?_⟩;have h5:=RepDL.app h2 h4
  rwa [show(cs.drop off).take k++cs.drop (off+k)=cs.drop off by rw[<- List.drop_drop];exact List.take_append_drop _ _]at h5
theorem Rd.struct{fs:Array Field}{n:Nat}{Ss:List (List D->Prop)}(ht:P.underlying t=some (.struct fs))(hn:P.cellsOf t=n)(hf:RdF P W fs.toList 0 n Ss):Rd P W t (qxT Ss):=by
 refine⟨?_⟩;intro H enc sp held fuel cs x h
 cases fuel with
 | zero=>simp[DataW.trod]at h
 | succ fuel=>
  unfold DataW.trod at h;rw[ht]at h;simp only at h;split at h
  ·rename_i hl
   obtain⟨xs,hxs,_⟩:=Option.map_eq_some_iff.1 h;obtain⟨ds,h1,h2⟩:=qtA hf (hl.trans hn) hxs;exact⟨ds,h1,by simpa using h2⟩
  ·cases h
end
theorem qnq{α:Type}{f:α->List D}{S:List D->Prop}(h:∀ ds,S ds -> ∃ a,ds=f a):∀ {es:List (List D)},(∀ e∈es,S e) -> ∃ l:List α,es=l.map f
 | [],_=>⟨[],rfl⟩
 | e::r,he=>by
  obtain⟨a,ha⟩:=h e (he e (by simp));obtain⟨l,hl⟩:=qnq h (es:=r) fun x hx=>he x (by simp[hx]);exact⟨a::l,by rw[ha,hl];rfl⟩
end Go.PX
