import Derived.Test.YtgpmlbbkfmkmkaaGreatDoorPxJ
set_option linter.all false
set_option maxRecDepth 10000
namespace Go.PX
open Go.RowKit
def quR{σ:Type}(P:Program)(T:Tys)(Y:Hd σ)(ops:List Oper)(o:Option Oper)(e:Env)(h:Heap)(s:σ)(go:Env->Heap->σ->Prop):Prop:=
 match o with
 | some ⟨dst,op,_,_,_,guard⟩=>qex ops e guard (fun w=>qP w e h fun e h=>qqN P T Y dst op e h s go) (fun w=>qP w e h fun e h=>qP (wset dst (.d (.tup []))) e h fun e h=>go e h s)
 | none=>False
def qic:List Bool->Nat->Bool
 | [],_=>true
 | b::_,0=>b
 | _::r,n+1=>qic r n
def qid(ls:List Bool):List Nat->Bool
 | []=>true
 | i::r=>qic ls i&&qid ls r
def qie(ls:List Bool):Nat->List (List Nat)->List Bool->List Nat
 | _,[],_=>[]
 | _,_,[]=>[]
 | i,d::ds,b::bs=>match b,qid ls d with
  | false,true=>i::qie ls (i+1) ds bs
  | _,_=>qie ls (i+1) ds bs
def qvz:List Bool->Nat->List Bool
 | [],_=>[]
 | _::r,0=>true::r
 | b::r,n+1=>b::qvz r n
noncomputable def qwM(l:List Nat)(f:Nat->Prop):Prop:=
 List.rec (motive:=fun _=>Prop) True (fun i _ ih=>f i/\ih) l
theorem qoJ{f:Nat->Prop}:∀ {l:List Nat},qwM l f ↔ ∀ i∈l,f i
 | []=>by simp[qwM]
 | i::r=>by
  have:=qoJ (f:=f) (l:=r);simp only[qwM]at this ⊢;rw[this];simp
noncomputable def qrJ{σ:Type}(P:Program)(T:Tys)(Y:Hd σ)(ops:List Oper)(deps:List (List Nat))(n:Nat):List Bool->Env->Heap->σ->(Env->Heap->σ->Prop)->Prop:=
 Nat.rec (motive:=fun _=>List Bool->Env->Heap->σ->(Env->Heap->σ->Prop)->Prop) (fun _ e h s K=>K e h s)
  (fun _ ih ls e h s K=>qwM (qie ls 0 deps ls) fun i=>quR P T Y ops ops[i]? e h s fun e h s=>ih (qvz ls i) e h s K) n
def qif:List Oper->List (List Nat)->Bool
 | [],[]=>true
 | o::r,d::ds=>d.all (fun i=>o.after.toList.any fun e=>Region.binds .any e&&Nat.beq e.on i)&&qif r ds
 | _,_=>false
theorem qeP:∀ {l:List Oper} {ds:List (List Nat)},qif l ds=true->l.length=ds.length /\ ∀ (i:Nat) (o:Oper) (d:List Nat),l[i]?=some o->ds[i]?=some d -> ∀ j∈d,∃ e∈o.after,Region.binds .any e=true/\e.on=j
 | [],[],_=>⟨rfl,fun i o d h=>by simp at h⟩
 | [],_::_,h=>by simp[qif]at h
 | _::_,[],h=>by simp[qif]at h
 | o::r,d::ds,h=>by
  simp only[qif,Bool.and_eq_true,List.all_eq_true]at h;obtain⟨h1,h2⟩:=qeP h.2;refine⟨by simp[h1],fun i o' d' ho hd j hj=>?_⟩
  cases i with
  | zero=>
   simp at ho hd;subst ho;subst hd;have:=h.1 j hj;simp only[List.any_eq_true,Bool.and_eq_true]at this;obtain⟨e,he,hb,hq⟩:=this;exact⟨e,by simpa using he,hb,Nat.eq_of_beq_eq_true hq⟩
  | succ i=>exact h2 i o' d' (by simpa using ho) (by simpa using hd) j hj
theorem qjq:∀ {ls:List Bool} {i:Nat},qic ls i=ls.toArray.getD i true
 | [],i=>by simp[qic,Array.getD_eq_getD_getElem?]
 | b::r,0=>by simp[qic,Array.getD_eq_getD_getElem?]
 | b::r,n+1=>by
  have:=qjq (ls:=r) (i:=n);simp only[qic,this,Array.getD_eq_getD_getElem?];simp
theorem qjr{ls:List Bool}:∀ {d:List Nat},(∀ j∈d,qic ls j=true)->qid ls d=true
 | [],_=>rfl
 | i::r,h=>by
  have h1:=qjr (ls:=ls) (d:=r) fun j hj=>h j (List.mem_cons_of_mem _ hj);simp[qid,h i (by simp),h1]
theorem qjs{ls:List Bool}:∀ {ds:List (List Nat)} {bs:List Bool} {k i:Nat} {d:List Nat},ds[i]?=some d->bs[i]?=some false->qid ls d=true->k+i∈qie ls k ds bs
 | [],_,_,i,d,h,_,_=>by simp at h
 | _::_,[],_,i,d,_,h,_=>by simp at h
 | x::ds,b::bs,k,i,d,hd,hb,ha=>by
  cases i with
  | zero=>
   simp at hd hb;subst hd;subst hb;simp[qie,ha]
  | succ i=>
   have:=qjs (ls:=ls) (ds:=ds) (bs:=bs) (k:=k+1) (i:=i) (by simpa using hd) (by simpa using hb) ha;rw[show k+(i+1)=k+1+i by omega];simp only[qie];split
   ·exact List.mem_cons_of_mem _ this
   ·exact this
theorem qky:∀ {ls:List Bool} {i:Nat},qvz ls i=ls.set i true
 | [],i=>by simp[qvz]
 | b::r,0=>rfl
 | b::r,n+1=>by simp[qvz,qky (ls:=r)]
def unl:List Bool->Nat
 | []=>0
 | true::r=>unl r
 | false::r=>unl r+1
theorem qrK:∀ {ls:List Bool} {i:Nat},ls[i]?=some false->unl (ls.set i true)+1=unl ls
 | [],i,h=>by simp at h
 | b::r,0,h=>by
  simp at h;subst h;simp[unl]
 | b::r,i+1,h=>by
  have:=qrK (ls:=r) (i:=i) (by simpa using h);cases b<;>simp[unl,this]
theorem qrL:∀ {ls:List Bool},0<unl ls -> ∃ i:Nat,ls[i]?=some false /\ ∀ j:Nat,j<i->ls[j]?=some true
 | [],h=>by simp[unl]at h
 | false::r,_=>⟨0,rfl,fun j hj=>by omega⟩
 | true::r,h=>by
  obtain⟨i,h1,h2⟩:=qrL (ls:=r) (by simpa[unl]using h);refine⟨i+1,by simpa using h1,fun j hj=>?_⟩
  cases j with
  | zero=>rfl
  | succ j=>simpa using h2 j (by omega)
theorem qoK:∀ {ls:List Bool},unl ls=0 -> ∀ i:Nat,ls[i]?≠some false
 | [],_,i=>by simp
 | false::r,h,i=>by simp[unl]at h
 | true::r,h,i=>by
  cases i with
  | zero=>simp
  | succ i=>simpa using qoK (ls:=r) (by simpa[unl]using h) i
section
variable {P : Program} {T : Tys} {σ : Type} {Y : Hd σ} {cx : Cx σ} {r : Option Nat} {m : List Nat}
theorem qdY{ls:List Bool}{i:Nat}:ls.toArray.getD i true=false↔ls[i]?=some false:=by
 rw[Array.getD_eq_getD_getElem?];simp only[List.getElem?_toArray]
 cases ls[i]? with
 | none=>simp
 | some b=>simp
theorem qfv{ls:List Bool}{i:Nat}:ls.toArray.getD i false=true↔ls[i]?=some true:=by
 rw[Array.getD_eq_getD_getElem?];simp only[List.getElem?_toArray]
 cases ls[i]? with
 | none=>simp
 | some b=>simp
theorem qlY(hT:qU P T)(hY:Handles P Y cx){ops:Array Oper}{deps:List (List Nat)}(hback:qhF 0 ops.toList=true)(hdeps:qif ops.toList deps=true){F0:Nat->Nat}{w0:World}{n0:Nat}(hd:∀ o∈ops.toList,∀ d,o.dst=some d->d<n0){K:Env->Heap->σ->Prop} :
  ∀ (n:Nat) {ls:List Bool} {e:Env} {h:Heap} {s:σ} {L:Loc} {F:Nat->Nat} {a:Act} {w:World},ls.length=ops.size->unl ls=n->Good cx r m L F ⟨e,h,s⟩ a w->a.tmps.size=n0->Tr F0 w0 F w ->
   qrJ P T Y ops.toList deps n ls e h s K->wpAnyIn (fr r) 0 P .any ops (qfl Y cx r m F0 w0 n0 K) n ls.toArray a w:=by
 obtain⟨hdl,hds⟩:=qeP hdeps;have hdl:ops.size=deps.length:=by simpa using hdl
 intro n
 induction n with
 | zero=>
  intro ls e h s L F a w hl hu hg hs tr hk;refine⟨?_,.inl ⟨e,h,s,L,F,rfl,hk,hg,tr,hs⟩⟩
  cases hr:Region.ready .any ops ls.toArray with
  | nil=>rfl
  | cons i _=>
   have:i∈Region.ready .any ops ls.toArray:=by rw[hr];exact List.mem_cons_self ..
   have:=qdY.1 (mem_ready.1 this).1;exact absurd this (qoK hu i)
 | succ n ih=>
  intro ls e h s L F a w hl hu hg hs tr hk;refine⟨fun hr=>?_,fun i hi=>?_⟩
  ·exfalso
   obtain⟨i,h1,h2⟩:=qrL (ls:=ls) (by omega);have his:i<ops.size:=by rw[<- hl];exact(List.getElem?_eq_some_iff.1 h1).1
   have:i∈Region.ready .any ops ls.toArray:=by
    rw[mem_ready];refine⟨qdY.2 h1,ops[i],Array.getElem?_eq_getElem his,fun e he hb=>?_⟩;have hlt:=qdj hback i ops[i] (by simp) e he hb;exact qfv.2 (h2 e.on (by omega))
   rw[hr]at this;cases this
  ·obtain⟨hjl,oj,hoj,hedges⟩:=mem_ready.1 hi
   have his:i<ops.size:=(Array.getElem?_eq_some_iff.1 hoj).1;have hli:=qdY.1 hjl;have hk:qwM (qie ls 0 deps ls) fun i=>quR P T Y ops.toList ops.toList[i]? e h s fun e h s=>qrJ P T Y ops.toList deps n (qvz ls i) e h s K:=hk;have hdi:deps[i]?=some (deps[i]'(by omega)):=List.getElem?_eq_getElem _;have hki:=qoJ.1 hk i (by
    have:=qjs (ls:=ls) (ds:=deps) (bs:=ls) (k:=0) (i:=i) hdi hli (qjr fun j hj=>by
     obtain⟨e,he,hb,rfl⟩:=hds i oj _ (by simpa using hoj) hdi j hj;have:=hedges e he hb;rw[qjq];have:=qfv.1 this;rw[Array.getD_eq_getD_getElem?];simp[this])
    simpa using this)
   have hot:ops.toList[i]?=some oj:=by simpa using hoj
   rw[hot]at hki;obtain⟨dst,op,ty,pos,after,guard⟩:=oj;refine qjh hT hY hoj hg (fun d hdst=>by rw[hs];exact hd _ (List.mem_of_getElem? hot) d hdst) hki (fun e' h' s' L' F' a' w' hg' hs' tr' hk'=>?_) fun e' a' w' hp=>.inr (hp.trans tr hs);have hset:ls.toArray.setIfInBounds i true=(qvz ls i).toArray:=by rw[qky];simp
   rw[hset];refine ih (by rw[qky];simpa using hl) ?_ hg' (hs'.trans hs) (Tr.trans tr tr') hk';rw[qky];have:=qrK hli;omega
variable {ft : FT}
theorem qnt(hm:P.follows .mixedOrders=true)(hT:qU P T)(deps:List (List Nat)){id:Nat}{ops:Array Oper}(hst:(qhF 0 ops.toList&&qif ops.toList deps)=true){e:Env}{h:Heap}{s:σ}{K:AExit->St σ->Prop}
  (hk:qrJ P T Y ops.toList deps deps.length (deps.map fun _=>false) e h s fun e h s=>jX (qM ft.ks e) fun e=>K .normal ⟨e,h,s⟩):RegionA P ft Y id ops ⟨e,h,s⟩ K:=by
 refine⟨fun cx hY r m L F a w hg hc=>?_⟩;rw[Bool.and_eq_true]at hst;obtain⟨hdl,_⟩:=qeP hst.2;have hdl:ops.size=deps.length:=by simpa using hdl
 refine wpIn_mono (wpIn_region_any (id:=id) (Q:=qfl Y cx r m F w a.tmps.size (fun e h s=>jX (qM ft.ks e) fun e=>K .normal ⟨e,h,s⟩)) hm ?_) fun ex a' w' hq=>?_
 ·have hrep:Array.replicate ops.size false=(deps.map fun _=>false).toArray:=by
   rw[hdl];have:∀ l:List (List Nat),(l.map fun _=>false)=List.replicate l.length false:=by
    intro l
    induction l with
    | nil=>rfl
    | cons x r ih=>rw[List.map_cons,ih];rfl
   rw[this];simp
  have hunl:∀ l:List (List Nat),unl (l.map fun _=>false)=l.length:=by
   intro l
   induction l with
   | nil=>rfl
   | cons x r ih=>simp[unl,ih]
  rw[hrep,hdl];exact qlY hT hY hst.1 hst.2 (qfm hc) deps.length (by simp[hdl]) (hunl deps) (hg.same (w':={ w with drawn:=w.drawn+1 }) rfl rfl rfl rfl) rfl (Tr.drew _) hk
 ·rcases hq with⟨e',h',s',L',F',hex,hk,hg',tr,hs⟩|hp
  case inr=>exact .inr hp
  rw[qap]at hk;exact .inl ⟨.normal,_,m,L',F',hex,hk,hg'.sub (jZ ft.ks e') (fun _ _ h=>h),tr,hs⟩
end
end Go.PX
namespace Go.PX
mutual
def relax:D->D
 | .agg cs=>.agg (qfw cs)
 | .tup cs=>.tup (qfw cs)
 | .vs es=>.vs (qlZ es)
 | .nils=>.vs []
 | .ref cs=>.ref (qfw cs)
 | .bool b=>.bool b
 | .int k n=>.int k n
 | .str s=>.str s
 | .nilp=>.nilp
 | .mv kvs=>.mv kvs
 | .nilm=>.nilm
 | .clo f caps=>.clo f caps
 | .mth f first=>.mth f first
 | .nilf=>.nilf
 | .ifc t v=>.ifc t v
 | .nili=>.nili
def qfw:List D->List D
 | []=>[]
 | c::r=>relax c::qfw r
def qlZ:List (List D)->List (List D)
 | []=>[]
 | c::r=>qfw c::qlZ r
end
theorem qfx:∀ l:List D,(qfw l).length=l.length
 | []=>rfl
 | c::r=>by simp only[qfw,List.length_cons,qfx r]
theorem qfy:∀ l:List (List D),(qlZ l).length=l.length
 | []=>rfl
 | c::r=>by simp only[qlZ,List.length_cons,qfy r]
mutual
theorem RepD.relax{F:Nat->Nat}{w:World}:∀ (a:D) (v:Value),RepD F w a v->RepD F w (relax a) v
 | .agg cs,_,hr=>by
  obtain⟨l,rfl,hl⟩:=hr;exact⟨l,rfl,RepDL.relax cs _ hl⟩
 | .tup cs,_,hr=>by
  obtain⟨l,rfl,hl⟩:=hr;exact⟨l,rfl,RepDL.relax cs _ hl⟩
 | .vs es,_,hr=>by
  obtain⟨a,len,cap,rfl,hl,hc,he⟩:=hr;refine⟨a,len,cap,rfl,by rw[qfy];exact hl,hc,fun hne=>?_⟩;obtain⟨b,off,sz,ha,hs,hes⟩:=he (by rintro rfl;exact hne rfl);exact⟨b,off,sz,ha,hs,RepEs.relax es b off sz hes⟩
 | .nils,_,hr=>by
  have hx:_=Value.slice none 0 0:=hr;subst hx;exact⟨none,0,0,rfl,rfl,Nat.le_refl _,fun h=>absurd rfl h⟩
 | .ref cs,_,hr=>by
  obtain⟨b,off,rfl,hc⟩:=hr;exact⟨b,off,rfl,RepAt.relax cs b off hc⟩
 | .bool _,_,hr=>hr
 | .int _ _,_,hr=>hr
 | .str _,_,hr=>hr
 | .nilp,_,hr=>hr
 | .mv _,_,hr=>hr
 | .nilm,_,hr=>hr
 | .clo _ _,_,hr=>hr
 | .mth _ _,_,hr=>hr
 | .nilf,_,hr=>hr
 | .ifc _ _,_,hr=>hr
 | .nili,_,hr=>hr
theorem RepDL.relax{F:Nat->Nat}{w:World}:∀ (cs:List D) (l:List Value),RepDL F w cs l->RepDL F w (qfw cs) l
 | [],_,hr=>hr
 | c::r,_,hr=>by
  obtain⟨x,l',rfl,hc,hl⟩:=hr;exact⟨x,l',rfl,RepD.relax c x hc,RepDL.relax r l' hl⟩
theorem RepAt.relax{F:Nat->Nat}{w:World}:∀ (cs:List D) (b off:Nat),RepAt F w b off cs->RepAt F w b off (qfw cs)
 | [],_,_,_=>trivial
 | c::r,b,off,hr=>by
  obtain⟨hf,⟨x,hx,hc⟩,hl⟩:=hr;exact⟨hf,⟨x,hx,RepD.relax c x hc⟩,RepAt.relax r b (off+1) hl⟩
theorem RepEs.relax{F:Nat->Nat}{w:World}:∀ (es:List (List D)) (b off sz:Nat),RepEs F w b off sz es->RepEs F w b off sz (qlZ es)
 | [],_,_,_,_=>trivial
 | e::r,b,off,sz,hr=>by
  obtain⟨hn,he,hl⟩:=hr;exact⟨by rw[qfx];exact hn,RepAt.relax e b off he,RepEs.relax r b (off+sz) sz hl⟩
end
theorem FnV.relax{P:Program}{f:FuncId}{ds:List D}{r:D}(h:FnV P f ds r){r':D}(hr:PX.relax r=r'):FnV P f ds r':=by
 subst hr;intro σ Y s;obtain⟨h1,h2⟩:=h Y s;refine⟨h1,fun cx hY L F vals w hh hv=>(h2 cx hY L F vals w hh hv).mono ?_⟩;rintro e w' ⟨x,rfl,v,h',s',L',F',⟨⟨rfl,rfl⟩,rfl⟩,hh',hx,tr,hp⟩;exact⟨x,rfl,_,_,_,L',F',⟨⟨rfl,rfl⟩,rfl⟩,hh',RepD.relax r x hx,tr,hp⟩
section
variable {P : Program} {σ : Type} {Y : Hd σ}
theorem qwN{args0:List V}{h0:Heap}{s:σ}{Q:V->Heap->σ->Prop}(tb:List Nat){e:Env}{h:Heap}{d:Option Nat}{args:List V}{K:St σ->Prop}(hy:Y.y args0 h0 s Q)
  (hargs:qpJ (qaE tb (d.getD 0)) args0=args) (hlent:qcF (qaE tb (d.getD 0)) h 1000000 tb h0) (htb:qcm tb=true) (hln:Nat.ble tb.length 1000=true)
  (hq:∀ v h1 s',Q v h1 s'->qbU tb d v h1=true/\qP (zN tb d v h1) e h fun e h=>K ⟨e,h,s'⟩):YldA P Y ⟨e,h,s⟩ d args K:=by
 refine qvu tb hy hargs hlent htb hln fun v h1 s' hv=>?_;obtain⟨h2,h3⟩:=hq v h1 s' hv;refine⟨h2,?_⟩;rw[zy s']at h3;have hs:(qx (⟨e,h,s'⟩:St σ) (zN tb d v h1)).s=s':=jb _ _;generalize qx (⟨e,h,s'⟩:St σ) (zN tb d v h1)=st at h3 hs;obtain⟨e1,h1,s1⟩:=st;simp only at hs;subst hs;exact h3
end
theorem qma{P:Program}{σ:Type}{Y:Hd σ}{st:St σ}{d:Option Nat}{f:FuncId}{args args':List V}{K:St σ->Prop}(h:∀ (yv:Option Nat) (L:Loc) (F:Nat->Nat) (w:World) (l:List Value),RepVL yv L F w args l->RepVL yv L F w args' l)(hc:CallA P Y st d f args' K):CallA P Y st d f args K:=by
 obtain⟨h1,h2⟩:=hc;exact⟨h1,fun cx hY r m L F a w vals hg hd hr=>h2 cx hY r m L F a w vals hg hd (h _ _ _ _ _ hr)⟩
def FT.less(ft:FT)(id:Nat):FT:=⟨ft.ks,cut ft.tb id⟩
theorem qjt:∀ l:List D,qcH (inj l)=true
 | []=>rfl
 | x::r=>by simp only[inj,qcH,yfree,qjt r];rfl
theorem qcK{l:List Nat}{K:List Nat->Prop}(l':List Nat)(h:l=l')(k:jv l' K):jv l K:=by subst h;exact k
theorem qgJ:∀ l:List D,zh (inj l) = []
 | []=>rfl
 | x::r=>by simp only[inj,zh,zq,qgJ r];rfl
theorem qgK:∀ a b:List V,zh (a++b)=zh a++zh b
 | [],b=>rfl
 | x::r,b=>by simp only[List.cons_append,zh,qgK r b,List.append_assoc]
theorem jD(l:List (List D))(vs:List (List V)):zh (ze l++vs).flatten=zh vs.flatten:=by
 rw[List.flatten_append,qgK,zW,qgJ];rfl
theorem qju:∀ (l:List V) (i k:Nat) (v:V),l[k]?=some v->get (jn i l) (i+k)=some v
 | [],_,k,v,h=>by simp at h
 | a::r,i,0,v,h=>by
  simp at h;subst h;simp[jn,get]
 | a::r,i,k+1,v,h=>by
  have hne:Nat.beq i (i+(k+1))=false:=by
   rw[Bool.eq_false_iff];intro e;have:=Nat.eq_of_beq_eq_true e;omega
  simp only[jn,get,hne];rw[show i+(k+1)=i+1+k by omega];exact qju r (i+1) k v (by simpa using h)
theorem RepVL.of{yv:Option Nat}{L:Loc}{F:Nat->Nat}{w:World}:∀ {l:List V} {vals:List Value},l.length=vals.length->(∀ (k:Nat) (v:V),l[k]?=some v -> ∃ x,vals[k]?=some x/\RepV yv L F w v x)->RepVL yv L F w l vals
 | [],[],_,_=>rfl
 | [],_::_,h,_=>by simp at h
 | _::_,[],h,_=>by simp at h
 | v::l,x::vals,h,hk=>by
  obtain⟨y,hy,hr⟩:=hk 0 v rfl;simp at hy;subst hy;exact⟨x,vals,rfl,hr,RepVL.of (by simpa using h) fun k u hu=>by simpa using hk (k+1) u (by simpa using hu)⟩
theorem qkz{σ:Type}{l l':List V}{h h':Heap}{s:σ}{Q:V->Heap->σ->Prop}(hw:Wk (⟨jn 0 l,h,s⟩:St σ) ⟨jn 0 l',h',s⟩)(hlen:l'.length=l.length)(hl:Nat.ble l.length 1000=true)(hr:RetA l' h' s Q):RetA l h s Q:=by
 obtain⟨hr⟩:=hr;refine⟨fun cx L F vals w hh hv=>?_⟩;have hvl:vals.length=l.length:=by simpa using hv.length
 have hl:=Nat.le_of_ble_eq_true hl;have hg:Good { cx with pρ:=L.ρ,pκ:=L.κ,base:=[] } none [] L F ⟨jn 0 l,h,s⟩ { tmps:=vals.toArray,defers:=[] } w:=by
  refine⟨⟨hh.hg,hh.csz,hh.fresh,hh.obj,hh.own,hh.inj⟩,fun t v ht=>?_,rfl,(fun b hb=>by cases hb),List.nodup_nil,(fun l hl=>by cases hl),fun _ _=>⟨rfl,rfl⟩,by simp;omega⟩;obtain⟨k,hk,hv'⟩:=qcE ht;rw[Nat.zero_add]at hk;subst hk;obtain⟨x,hx,hrx⟩:=hv.get t hv';exact⟨x,by simpa using hx,hrx⟩
 obtain⟨L1,F1,hg1,tr⟩:=hw _ _ _ _ _ _ _ hg;have hv1:RepVL cx.yv L1 F1 w l' vals:=by
  refine RepVL.of (by omega) fun k v hk=>?_;obtain⟨x,hx,hrx⟩:=hg1.env k v (by simpa using qju l' 0 k v hk);exact⟨x,by simpa using hx,hrx⟩
 have hh1:HeapOk cx L1 F1 h' s w:=⟨hg1.heap.hg,hg1.heap.csz,hg1.heap.fresh,hg1.heap.obj,hg1.heap.own,hg1.heap.inj⟩;obtain⟨v,h2,L2,F2,q1,q2,q3,q4,q5⟩:=hr cx L1 F1 vals w hh1 hv1;refine⟨v,h2,L2,F2,q1,q2,q3,Tr.trans tr q4,fun i hi=>?_⟩;obtain⟨p1,p2⟩:=q5 i hi;obtain⟨p3,p4⟩:=hg1.pin i hi;exact⟨p1.trans p3,p2.trans p4⟩
theorem Good.frzPart2{σ:Type}{cx:Cx σ}{r:Option Nat}{m:List Nat}{L:Loc}{F:Nat->Nat}{st:St σ}{a:Act}{w:World}(hg:Good cx r m L F st a w){h:Heap}(hsub:qaF h st.heap)(n:Nat) :
  ∃ F1,Good cx r m L F1 (qx st (qrH (zX h))) a w/\Tr F w F1 w /\ ∀ args vals,RepVL cx.yv L F w args vals->RepVL cx.yv L F1 w (qdn (qcv h n) args) vals:=by
 have hok:HeapOk cx L F h st.s w:=(hg.sub (e:=st.env) (h:=h) (fun _ _ h=>h) hsub).heap;have tr:=qaL hok;have hF1C:∀ b,cx.C st.s b->qaB L F h w b=F b:=fun b hb=>qfq hok hb;have hF1o:∀ id o,get st.heap id=some o->id∉zX h->Backed L id o->qaB L F h w (L.ρ id)=F (L.ρ id):=by
  intro id o hi hn hb;refine qaC ?_;rintro ⟨j,p,hj,hbj,hij⟩;have:=hg.heap.inj j id p o (hsub j p hj) hi hbj hb hij;subst this;exact hn (qcG hj)
 have hfr:=qab hok;have hobj:=qgG hok n;generalize qaB L F h w=F1 at tr hF1C hF1o hfr hobj;rw[qbm];have hget:∀ i o,get (qmO st.heap (zX h)) i=some o->i∉zX h/\get st.heap i=some o:=by
  intro i o hi;rw[qdo]at hi;split at hi
  ·cases hi
  ·rename_i hn;exact⟨hn,hi⟩
 refine⟨F1,⟨⟨cx.stable hg.heap.hg tr hfr fun b hb=>⟨rfl,hF1C b hb⟩,hg.heap.csz,hfr,?_,?_,?_⟩,?_,hg.dfr,hg.mks,hg.mnd,hg.lk,hg.pin,hg.tsz⟩,tr,fun args vals hr=>RepVL.repl tr hobj args vals hr⟩
 ·intro i o hi
  exact RepO.mono tr i o (fun _ _=>⟨rfl,rfl⟩) ⟨rfl,rfl⟩ (fun _=>rfl) (hg.heap.obj i o (hget i o hi).2)
 ·intro i o hi hb
  obtain⟨hn,h0⟩:=hget i o hi;rw[hF1o i o h0 hn hb];exact hg.heap.own i o h0 hb
 ·intro i j o p hi hj hbi hbj he
  exact hg.heap.inj i j o p (hget i o hi).2 (hget j p hj).2 hbi hbj he
 ·intro t v ht
  obtain⟨x,hx,hr⟩:=hg.env t v ht;exact⟨x,hx,RepV.mono tr v x (fun _ _=>⟨rfl,rfl⟩) hr⟩
end Go.PX
namespace Go.PX
open Go.RowKit
def qvA(P:Program)(t:TypeId)(name:String)(g:FuncId):Bool:=
 match P.info? t,P.underlying t with
 | some i,some d=>(match d with
  | .pointer _=>false
  | _=>true)&&(match i.methods.find? (·.name ==name) with
  | some m=>m.path.isEmpty&&(match m.func with
   | some (g',false)=>g' ==g
   | _=>false)
  | none=>false)
 | _,_=>false
theorem qvB{P:Program}{t:TypeId}{name:String}{g:FuncId}(h:qvA P t name g=true)(v:Value)(w:World):(method (P.types.size+Made.depth) t v name).run P w = .ok (g,v) w:=by
 unfold qvA at h;split at h;case h_2=>cases h
 rename_i i d hi hd;rw[Bool.and_eq_true]at h;obtain⟨hp,h⟩:=h;split at h;case h_2=>cases h
 rename_i m hm;rw[Bool.and_eq_true]at h;obtain⟨hpath,h⟩:=h;split at h;case h_2=>cases h
 rename_i g' hf;have:g'=g:=by simpa using h
 subst this;obtain⟨n,hn⟩:∃ n,P.types.size+Made.depth=n+1:=⟨P.types.size+99,rfl⟩;have hpl:m.path.toList = []:=by
  have:m.path = #[]:=by simpa using hpath
  rw[this]
 rw[hn,method];have h1:(typeInfo t).run P w = .ok i w:=by simp[typeInfo,hi]
 have hu:(underlying t).run P w = .ok d w:=run_underlying hd w;simp only[Sem.run_bind,h1,Result.andThen_ok,hm,hpl,follow,Sem.run_pure,hf];cases d<;>first|(simp at hp;done)|simp[receiverAt,hu,Sem.run_bind,Place.get]
theorem qrM{P:Program}{t:TypeId}{name:String}{K:FuncId->Prop}(g:FuncId)(h:qvA P t name g=true)(hk:K g):InvA P t name K:=⟨g,qvB h,hk⟩
end Go.PX
namespace Go.PX.PG
variable {α : Type}
structure Step(α:Type) where
 a:α
 b:α
 w:Int
def Pot(es:List (Step α))(t:α->Int):Prop:=∀ e∈es,t e.b<=t e.a+e.w
inductive Walk(es:List (Step α)):α->α->Nat->Int->Prop
 | nil (a:α):Walk es a a 0 0
 | snoc {a b:α} {n:Nat} {x:Int} (h:Walk es a b n x) (e:Step α) (he:e∈es) (hb:e.a=b):Walk es a e.b (n+1) (x+e.w)
theorem Walk.pot{es:List (Step α)}{t:α->Int}(ht:Pot es t){a b:α}{n:Nat}{x:Int}(h:Walk es a b n x):t b<=t a+x:=by
 induction h with
 | nil=>omega
 | snoc h e he hb ih=>
  have:=ht e he;rw[hb]at this;omega
theorem Walk.trans{es:List (Step α)}{a b:α}{n:Nat}{x:Int}(h:Walk es a b n x){c:α}{m:Nat}{y:Int}(k:Walk es b c m y):Walk es a c (n+m) (x+y):=by
 induction k with
 | nil=>simpa using h
 | snoc k e he hb ih=>
  have:=Walk.snoc ih e he hb;rw[Int.add_assoc]at this;exact this
theorem Walk.one{es:List (Step α)}{e:Step α}(he:e∈es):Walk es e.a e.b 1 e.w:=by
 have:=Walk.snoc (Walk.nil (es:=es) e.a) e he rfl;simpa using this
structure Dist(es:List (Step α))(a:α)(l:α->Option Int):Prop where
 walk:∀ v x,l v=some x -> ∃ n,Walk es a v n x
 fix:∀ e∈es,∀ x,l e.a=some x -> ∃ y,l e.b=some y/\y<=x+e.w
 root:∃ x,l a=some x/\x<=0
theorem Dist.le{es:List (Step α)}{a:α}{l:α->Option Int}(h:Dist es a l){b:α}{n:Nat}{x:Int}(k:Walk es a b n x):∃ y,l b=some y/\y<=x:=by
 induction k with
 | nil=>exact h.root
 | snoc k e he hb ih=>
  obtain⟨y,h1,h2⟩:=ih;rw[<- hb]at h1;obtain⟨z,h3,h4⟩:=h.fix e he y h1;exact⟨z,h3,by omega⟩
theorem Dist.root0{es:List (Step α)}{a:α}{l:α->Option Int}(h:Dist es a l):l a=some 0:=by
 obtain⟨x,h1,h2⟩:=h.root;obtain⟨n,hw⟩:=h.walk a x h1;obtain⟨y,h3,h4⟩:=h.le (hw.trans hw);rw[h1]at h3;cases h3;have:x=0:=by omega
 rw[h1,this]
theorem Dist.pot{es:List (Step α)}{a:α}{l:α->Option Int}(h:Dist es a l)(hall:∀ e∈es,∃ x,l e.a=some x):Pot es fun v=>(l v).getD 0:=by
 intro e he;obtain⟨x,hx⟩:=hall e he;obtain⟨y,hy,hle⟩:=h.fix e he x hx;simp only[hx,hy,Option.getD_some];exact hle
theorem Dist.most{es:List (Step α)}{a:α}{l:α->Option Int}(h:Dist es a l){t:α->Int}(ht:Pot es t){v:α}{x:Int}(hx:l v=some x):t v<=t a+x:=by
 obtain⟨n,hw⟩:=h.walk v x hx;exact hw.pot ht
inductive WL(es:List (Step α)):List α->Int->Prop
 | one (a:α):WL es [a] 0
 | snoc {b:α} {l:List α} {x:Int} (h:WL es (b::l) x) (e:Step α) (he:e∈es) (hb:e.a=b):WL es (e.b::b::l) (x+e.w)
theorem WL.split{es:List (Step α)}:∀ (l1:List α) {c:α} {l2:List α} {x:Int},WL es (l1++c::l2) x -> ∃ x1 x2,WL es (c::l2) x1/\WL es (l1 ++ [c]) x2/\x=x1+x2
 | [],c,l2,x,h=>⟨x,0,h,.one c,by omega⟩
 | d::l1,c,l2,x,h=>by
  cases hl:l1++c::l2 with
  | nil=>simp at hl
  | cons b r=>
   rw[List.cons_append,hl]at h
   cases h with
   | snoc h e he hb=>
    rename_i y;rw[<- hl]at h;obtain⟨x1,x2,h1,h2,h3⟩:=WL.split l1 h;refine⟨x1,x2+e.w,h1,?_,by omega⟩
    cases l1 with
    | nil=>
     simp at hl;obtain⟨rfl,_⟩:=hl;exact WL.snoc (l:=[]) h2 e he hb
    | cons b' r'=>
     simp at hl;obtain⟨rfl,_⟩:=hl;exact WL.snoc (l:=r' ++ [c]) h2 e he hb
theorem WL.join{es:List (Step α)}:∀ (l1:List α) {c:α} {l2:List α} {x1 x2:Int},WL es (c::l2) x1->WL es (l1 ++ [c]) x2->WL es (l1++c::l2) (x1+x2)
 | [],c,l2,x1,x2,h1,h2=>by
  cases h2;simpa using h1
 | d::l1,c,l2,x1,x2,h1,h2=>by
  cases hl:l1 ++ [c]with
  | nil=>simp at hl
  | cons b r=>
   rw[List.cons_append,hl]at h2
   cases h2 with
   | snoc h e he hb=>
    rename_i y;rw[<- hl]at h;have h3:=WL.join l1 h1 h
    cases l1 with
    | nil=>
     simp at hl;obtain⟨rfl,_⟩:=hl;have:=WL.snoc (l:=l2) h3 e he hb;rw[Int.add_assoc]at this;exact this
    | cons b' r'=>
     simp at hl;obtain⟨rfl,_⟩:=hl;have:=WL.snoc (l:=r'++c::l2) h3 e he hb;rw[Int.add_assoc]at this;exact this
theorem qeQ[DecidableEq α]:∀ {l N:List α},N.length<l.length->(∀ x∈l,x∈N) -> ∃ l1 c l2 l3,l=l1++c::(l2++c::l3)
 | [],N,h,_=>absurd h (by simp)
 | a::l,N,h,hs=>by
  by_cases ha:a∈l
  ·obtain⟨l2,l3,rfl⟩:=List.append_of_mem ha
   exact⟨[],a,l2,l3,rfl⟩
  ·have h1:(N.erase a).length<l.length:=by
    have:=List.length_erase_of_mem (hs a (by simp));simp at h;have h0:0<N.length:=List.length_pos_of_mem (hs a (by simp));omega
   obtain⟨l1,c,l2,l3,rfl⟩:=qeQ h1 (fun x hx=>(List.mem_erase_of_ne (by rintro rfl;exact ha hx)).2 (hs x (by simp[hx])));exact⟨a::l1,c,l2,l3,rfl⟩
theorem WL.short[DecidableEq α]{es:List (Step α)}{N:List α}(hpos:∀ c l x,WL es (c::(l ++ [c])) x->0<=x):∀ (k:Nat) {l:List α} {x:Int},l.length<=k->WL es l x->(∀ v∈l,v∈N) -> ∃ l' x',WL es l' x'/\l'.length<=N.length/\x'<=x/\l'.head?=l.head?/\l'.getLast?=l.getLast? /\ ∀ v∈l',v∈N
 | 0,[],x,_,h,_=>by cases h
 | k+1,l,x,hk,h,hN=>by
  by_cases hlen:l.length<=N.length
  ·exact⟨l,x,h,hlen,Int.le_refl _,rfl,rfl,hN⟩
  ·obtain⟨l1,c,l2,l3,rfl⟩:=qeQ (by omega) hN
   obtain⟨x1,x2,h1,h2,h3⟩:=WL.split l1 h;obtain⟨y1,y2,h4,h5,h6⟩:=WL.split (c::l2) (by simpa using h1);have h7:=hpos c l2 y2 (by simpa using h5);have h8:=WL.join l1 h4 h2;obtain⟨l',x',a1,a2,a3,a4,a5,a6⟩:=WL.short hpos k (l:=l1++c::l3) (x:=y1+x2) (by simp at hk ⊢;omega) h8 (fun v hv=>hN v (by
    rcases List.mem_append.1 hv with hv|hv
    ·simp[hv]
    ·rcases List.mem_cons.1 hv with rfl|hv
     ·simp
     ·simp[hv]))
   refine⟨l',x',a1,a2,by omega,?_,?_,a6⟩
   ·rw[a4]
    cases l1<;>simp
   ·rw[a5]
    simp[List.getLast?_append,List.getLast?_cons]
end Go.PX.PG
namespace Go.PX.PG
variable {α : Type} [DecidableEq α]
def upd(l:α->Option Int)(b:α)(x:Int):α->Option Int:=fun v=>if v=b then some x else l v
def relax(l:α->Option Int)(e:Step α):α->Option Int:=
 match l e.a with
 | none=>l
 | some n=>match l e.b with
  | none=>upd l e.b (n+e.w)
  | some m=>if n+e.w<m then upd l e.b (n+e.w) else l
def round(es:List (Step α))(l:α->Option Int):α->Option Int:=es.foldl relax l
def rounds(es:List (Step α)):Nat->(α->Option Int)->α->Option Int
 | 0,l=>l
 | k+1,l=>rounds es k (round es l)
def Less(l' l:α->Option Int):Prop:=∀ v x,l v=some x -> ∃ y,l' v=some y/\y<=x
theorem Less.refl(l:α->Option Int):Less l l:=fun v x h=>⟨x,h,Int.le_refl _⟩
theorem Less.trans{a b c:α->Option Int}(h:Less a b)(k:Less b c):Less a c:=fun v x hx=>by
 obtain⟨y,h1,h2⟩:=k v x hx;obtain⟨z,h3,h4⟩:=h v y h1;exact⟨z,h3,by omega⟩
theorem qjv(l:α->Option Int)(e:Step α):Less (relax l e) l:=by
 unfold relax;split
 ·exact Less.refl l
 ·split
  ·intro v x hx
   rename_i h;unfold upd;split
   ·rename_i h2;subst h2;rw[hx]at h;cases h
   ·exact⟨x,hx,Int.le_refl _⟩
  ·split
   ·intro v x hx
    rename_i m hm hlt;unfold upd;split
    ·rename_i h2;subst h2
     rw[hm]at hx;cases hx;exact⟨_,rfl,by omega⟩
    ·exact⟨x,hx,Int.le_refl _⟩
   ·exact Less.refl l
theorem qtG(l:α->Option Int)(e:Step α){x:Int}(h:l e.a=some x):∃ y,relax l e e.b=some y/\y<=x+e.w:=by
 unfold relax;rw[h];simp only
 cases hm:l e.b with
 | none=>exact⟨_,by simp only[upd,if_pos],Int.le_refl _⟩
 | some m=>
  simp only;split
  ·exact⟨_,by simp only[upd,if_pos],Int.le_refl _⟩
  ·exact⟨m,hm,by omega⟩
theorem qig:∀ (es:List (Step α)) (l:α->Option Int),Less (es.foldl relax l) l
 | [],l=>Less.refl l
 | e::es,l=>(qig es (relax l e)).trans (qjv l e)
theorem qrN:∀ (es:List (Step α)) (l:α->Option Int) (e:Step α),e∈es -> ∀ x,l e.a=some x -> ∃ y,es.foldl relax l e.b=some y/\y<=x+e.w
 | d::es,l,e,he,x,hx=>by
  rw[List.foldl_cons];rcases List.mem_cons.1 he with rfl|he
  ·obtain⟨y,h1,h2⟩:=qtG l e hx
   obtain⟨z,h3,h4⟩:=qig es (relax l e) _ _ h1;exact⟨z,h3,by omega⟩
  ·obtain⟨y,h1,h2⟩:=qjv l d _ _ hx
   obtain⟨z,h3,h4⟩:=qrN es (relax l d) e he y h1;exact⟨z,h3,by omega⟩
def Walks(es:List (Step α))(a:α)(l:α->Option Int):Prop:=∀ v x,l v=some x -> ∃ n,Walk es a v n x
theorem qnu{es:List (Step α)}{a:α}{l:α->Option Int}(h:Walks es a l){e:Step α}(he:e∈es):Walks es a (relax l e):=by
 have key:∀ n,l e.a=some n->Walks es a (upd l e.b (n+e.w)):=by
  intro n hn v x hx;unfold upd at hx;split at hx
  ·rename_i h2;subst h2
   cases hx;obtain⟨k,hw⟩:=h e.a n hn;exact⟨_,Walk.snoc hw e he rfl⟩
  ·exact h v x hx
 unfold relax;split
 ·exact h
 ·rename_i n hn
  split
  ·exact key n hn
  ·split
   ·exact key n hn
   ·exact h
theorem qjw{es:List (Step α)}{a:α}:∀ (ds:List (Step α)) {l:α->Option Int},(∀ e∈ds,e∈es)->Walks es a l->Walks es a (ds.foldl relax l)
 | [],l,_,h=>h
 | d::ds,l,hd,h=>qjw ds (fun e he=>hd e (by simp[he])) (qnu h (hd d (by simp)))
theorem qgL{es:List (Step α)}{a:α}:∀ (k:Nat) {l:α->Option Int},Walks es a l->Walks es a (rounds es k l)
 | 0,l,h=>h
 | k+1,l,h=>qgL k (qjw es (fun e he=>he) h)
theorem qih{es:List (Step α)}:∀ (k:Nat) (l:α->Option Int),Less (rounds es k l) l
 | 0,l=>Less.refl l
 | k+1,l=>(qih k (round es l)).trans (qig es l)
theorem qii(es:List (Step α)):∀ (k:Nat) (l:α->Option Int),rounds es (k+1) l=round es (rounds es k l)
 | 0,l=>rfl
 | k+1,l=>by rw[rounds,qii es k (round es l)];rfl
theorem rounds_le{es:List (Step α)}{a:α}{l:α->Option Int}(h0:∃ x,l a=some x/\x<=0){v:α}{n:Nat}{x:Int}(hw:Walk es a v n x):∀ k,n<=k -> ∃ y,rounds es k l v=some y/\y<=x:=by
 induction hw with
 | nil=>
  intro k _;obtain⟨x,h1,h2⟩:=h0;obtain⟨y,h3,h4⟩:=qih (es:=es) k l a x h1;exact⟨y,h3,by omega⟩
 | snoc h e he hb ih=>
  intro k hk;obtain⟨k,rfl⟩:∃ j,k=j+1:=⟨k-1,by omega⟩;obtain⟨y,h1,h2⟩:=ih k (by omega);rw[qii];rw[<- hb]at h1;obtain⟨z,h3,h4⟩:=qrN es _ e he y h1;exact⟨z,h3,by omega⟩
def NoNeg(es:List (Step α)):Prop:=∀ c n x,Walk es c c n x->0<=x
theorem pot_noNeg{es:List (Step α)}{t:α->Int}(h:Pot es t):NoNeg es:=fun c n x hw=>by
 have:=hw.pot h;omega
theorem WL.walk{es:List (Step α)}:∀ {l:List α} {b a:α} {x:Int},WL es (b::l) x->(b::l).getLast?=some a->Walk es a b l.length x:=by
 intro l b a x h;generalize hl:b::l=m at h
 induction h generalizing b l with
 | one c=>
  intro ha;cases hl;simp at ha;subst ha;exact .nil _
 | snoc h e he hb ih=>
  rename_i b' l' x';intro ha;cases hl;have h1:=ih rfl (by simpa[List.getLast?_cons]using ha);exact Walk.snoc h1 e he hb
theorem Walk.wl{es:List (Step α)}{N:List α}(hN:∀ e∈es,e.a∈N/\e.b∈N){a b:α}(ha:a∈N){n:Nat}{x:Int}(h:Walk es a b n x):∃ l,l.length=n/\WL es (b::l) x/\(b::l).getLast?=some a /\ ∀ v∈b::l,v∈N:=by
 induction h with
 | nil=>exact⟨[],rfl,.one _,rfl,by simpa using ha⟩
 | snoc h e he hb ih=>
  rename_i b' n' x';obtain⟨l,h1,h2,h3,h4⟩:=ih;refine⟨b'::l,by simp[h1],WL.snoc h2 e he hb,by simpa[List.getLast?_cons]using h3,fun v hv=>?_⟩;rcases List.mem_cons.1 hv with rfl|hv
  ·exact(hN e he).2
  ·exact h4 v hv
theorem Walk.short{es:List (Step α)}{N:List α}(hN:∀ e∈es,e.a∈N/\e.b∈N)(hno:NoNeg es){a b:α}(ha:a∈N){n:Nat}{x:Int}(h:Walk es a b n x):∃ m y,m<N.length/\y<=x/\Walk es a b m y:=by
 obtain⟨l,h1,h2,h3,h4⟩:=h.wl hN ha;have hpos:∀ c l x,WL es (c::(l ++ [c])) x->0<=x:=fun c l x h=>hno c _ x (h.walk (by simp[List.getLast?_cons,List.getLast?_append]));obtain⟨l',y,a1,a2,a3,a4,a5,a6⟩:=WL.short hpos (b::l).length (Nat.le_refl _) h2 h4
 cases l' with
 | nil=>cases a1
 | cons b' l'=>
  simp at a4;subst a4;refine⟨l'.length,y,by simp at a2;omega,a3,a1.walk (by rw[a5];exact h3)⟩
theorem rounds_dist{es:List (Step α)}{N:List α}(hN:∀ e∈es,e.a∈N/\e.b∈N)(hno:NoNeg es){a:α}(ha:a∈N){k:Nat}(hk:N.length<=k+1):Dist es a (rounds es k fun v=>if v=a then some 0 else none):=by
 have h0:∃ x,(fun v=>if v=a then some (0:Int) else none) a=some x/\x<=0:=⟨0,by simp,Int.le_refl _⟩;have hw:Walks es a (rounds es k fun v=>if v=a then some 0 else none):=qgL k (by
  intro v x hx;simp only at hx;split at hx
  ·rename_i h;subst h;cases hx;exact⟨0,.nil _⟩
  ·cases hx)
 refine⟨hw,fun e he x hx=>?_,?_⟩
 ·obtain⟨n,h1⟩:=hw e.a x hx
  obtain⟨m,y,h2,h3,h4⟩:=(Walk.snoc h1 e he rfl).short hN hno ha;have h7:=rounds_le (es:=es) (a:=a) (l:=fun v=>if v=a then some 0 else none) h0 h4 k;obtain⟨z,h5,h6⟩:=h7 (by omega);exact⟨z,h5,by omega⟩
 ·have h7:=rounds_le (es:=es) (a:=a) (l:=fun v=>if v=a then some 0 else none) h0 (.nil a) k
  exact h7 (by omega)
end Go.PX.PG
namespace Go.PX.PG
def viaF(never x y z:Int):Int:=if x<never/\y<never then min z (x+y) else z
abbrev Tb:=Nat->Nat->Int
def updT(t:Tb)(i j:Nat)(x:Int):Tb:=fun a b=>if a=i/\b=j then x else t a b
def stepT(never:Int)(t:Tb)(i k j:Nat):Tb:=updT t i j (viaF never (t i k) (t k j) (t i j))
def rowT(never:Int)(n:Nat)(t:Tb)(i k:Nat):Tb:=(List.range n).foldl (fun t j=>stepT never t i k j) t
def stageT(never:Int)(n:Nat)(t:Tb)(k:Nat):Tb:=(List.range n).foldl (fun t i=>rowT never n t i k) t
theorem qwO(never x y z:Int):viaF never x y z<=z:=by
 unfold viaF;split<;>omega
theorem qhg(never:Int)(t:Tb)(i k j a b:Nat):stepT never t i k j a b<=t a b:=by
 unfold stepT updT;split
 ·rename_i h;obtain⟨rfl,rfl⟩:=h;exact qwO ..
 ·omega
theorem qfz{β:Type}(f:Tb->β->Tb)(hf:∀ t x a b,f t x a b<=t a b):∀ (l:List β) (t:Tb) (a b:Nat),l.foldl f t a b<=t a b
 | [],t,a,b=>Int.le_refl _
 | x::l,t,a,b=>by
  rw[List.foldl_cons];exact Int.le_trans (qfz f hf l (f t x) a b) (hf t x a b)
theorem qkA(never:Int)(n:Nat)(t:Tb)(i k a b:Nat):rowT never n t i k a b<=t a b:=qfz _ (fun t j=>qhg never t i k j) _ t a b
theorem stageT_le(never:Int)(n:Nat)(t:Tb)(k a b:Nat):stageT never n t k a b<=t a b:=qfz _ (fun t i=>qkA never n t i k) _ t a b
def WalksT(es:List (Step Nat))(never:Int)(t:Tb):Prop:=∀ a b,t a b<never -> ∃ n,Walk es a b n (t a b)
theorem qnv{es:List (Step Nat)}{never:Int}{t:Tb}(h:WalksT es never t)(i k j:Nat):WalksT es never (stepT never t i k j):=by
 intro a b hab;unfold stepT updT at hab ⊢;split
 ·rename_i h1
  obtain⟨rfl,rfl⟩:=h1;rw[if_pos ⟨rfl,rfl⟩]at hab;unfold viaF at hab ⊢;split
  ·rename_i h2
   rw[if_pos h2]at hab;by_cases h3:t a k+t k b<=t a b
   ·rw[Int.min_eq_right h3]
    obtain⟨n,h4⟩:=h a k h2.1;obtain⟨m,h5⟩:=h k b h2.2;exact⟨_,h4.trans h5⟩
   ·rw[Int.min_eq_left (by omega)]at hab ⊢
    exact h a b hab
  ·rename_i h2
   rw[if_neg h2]at hab;exact h a b hab
 ·rename_i h1
  rw[if_neg h1]at hab;exact h a b hab
theorem qeR{β:Type}{es:List (Step Nat)}{never:Int}(f:Tb->β->Tb)(hf:∀ t x,WalksT es never t->WalksT es never (f t x)):∀ (l:List β) (t:Tb),WalksT es never t->WalksT es never (l.foldl f t)
 | [],t,h=>h
 | x::l,t,h=>qeR f hf l _ (hf t x h)
theorem qpS{never:Int}{n:Nat}{t:Tb}{k i j:Nat}(hi:i<n)(hj:j<n){x y:Int}(hx:t i k<=x)(hy:t k j<=y)(hx0:x<never)(hy0:y<never):stageT never n t k i j<=x+y:=by
 have row:∀ (l:List Nat) (t:Tb),j∈l->t i k<=x->t k j<=y->l.foldl (fun t j=>stepT never t i k j) t i j<=x+y:=by
  intro l
  induction l with
  | nil=>intro t h;cases h
  | cons d l ih=>
   intro t hm h1 h2;rw[List.foldl_cons];by_cases hd:d=j
   ·subst hd
    refine Int.le_trans (qfz _ (fun t j=>qhg never t i k j) l _ i d) ?_;unfold stepT updT viaF;rw[if_pos ⟨rfl,rfl⟩,if_pos ⟨by omega,by omega⟩];omega
   ·refine ih _ ?_ (Int.le_trans (qhg ..) h1) (Int.le_trans (qhg ..) h2)
    rcases List.mem_cons.1 hm with h|h
    ·exact absurd h.symm hd
    ·exact h
 have col:∀ (l:List Nat) (t:Tb),i∈l->t i k<=x->t k j<=y->l.foldl (fun t i=>rowT never n t i k) t i j<=x+y:=by
  intro l
  induction l with
  | nil=>intro t h;cases h
  | cons d l ih=>
   intro t hm h1 h2;rw[List.foldl_cons];by_cases hd:d=i
   ·subst hd
    refine Int.le_trans (qfz _ (fun t i=>qkA never n t i k) l _ d j) ?_;exact row (List.range n) t (List.mem_range.2 hj) h1 h2
   ·refine ih _ ?_ (Int.le_trans (qkA ..) h1) (Int.le_trans (qkA ..) h2)
    rcases List.mem_cons.1 hm with h|h
    ·exact absurd h.symm hd
    ·exact h
 exact col (List.range n) t (List.mem_range.2 hi) hx hy
end Go.PX.PG
namespace Go.PX.PG
def stages(never:Int)(n:Nat)(t:Tb):Nat->Tb
 | 0=>t
 | k+1=>stageT never n (stages never n t k) k
theorem qmb(never:Int)(n:Nat)(t:Tb){j k:Nat}(h:j<=k)(a b:Nat):stages never n t k a b<=stages never n t j a b:=by
 induction k with
 | zero=>
  have:j=0:=by omega
  subst this;exact Int.le_refl _
 | succ k ih=>
  by_cases hj:j=k+1
  ·subst hj;exact Int.le_refl _
  ·exact Int.le_trans (stageT_le never n _ k a b) (ih (by omega))
structure Begin(es:List (Step Nat))(never W:Int)(n:Nat)(t:Tb):Prop where
 walks:WalksT es never t
 diag:∀ i,i<n->t i i<=0
 edge:∀ e∈es,t e.a e.b<=e.w
 nodes:∀ e∈es,e.a<n/\e.b<n
 small:∀ e∈es,-W<=e.w/\e.w<=W
 W0:0<=W
 room:(n+1:Nat)*W<never
theorem WL.bound{es:List (Step Nat)}{W:Int}(h0:0<=W)(hs:∀ e∈es,-W<=e.w/\e.w<=W):∀ {l:List Nat} {x:Int},WL es l x -> -((l.length-1:Nat)*W)<=x/\x<=(l.length-1:Nat)*W:=by
 intro l x h
 induction h with
 | one a=>simp
 | snoc h e he hb ih=>
  rename_i b l x;have h1:=hs e he;simp only[List.length_cons,Nat.add_sub_cancel]at ih ⊢;have e1:((l.length+1:Nat):Int)*W=(l.length:Nat)*W+W:=by
   rw[Int.natCast_add,Int.add_mul];simp
  omega
theorem qkB{k:Nat}:∀ {l:List Nat},k∈l -> ∃ a b,l=a++k::b/\k∉a
 | d::l,h=>by
  by_cases hd:d=k
  ·subst hd;exact⟨[],l,rfl,by simp⟩
  ·obtain⟨a,b,rfl,hk⟩:=qkB (show k∈l by
    rcases List.mem_cons.1 h with h|h
    ·exact absurd h.symm hd
    ·exact h)
   exact⟨d::a,b,rfl,by simp[hk];exact fun h=>hd h.symm⟩
theorem qij{es:List (Step Nat)}{never W:Int}{n:Nat}{t:Tb}(hB:Begin es never W n t):∀ (k:Nat),k<=n->(∀ j,j<k -> ∀ m,m<n->0<=stages never n t j m m) -> ∀ (i j:Nat) (mid:List Nat) (x:Int),i<n->j<n->(∀ v∈mid,v<k)->mid.length<=n->WL es (j::(mid ++ [i])) x->stages never n t k i j<=x
 | 0,_,_,i,j,mid,x,hi,hj,hm,_,h=>by
  cases mid with
  | cons v r=>have:=hm v (by simp);omega
  | nil=>
   cases h with
   | snoc h e he hb=>
    cases h;have:=hB.edge e he;rw[hb]at this;show t i e.b<=_;omega
 | k+1,hk,hd,i,j,mid,x,hi,hj,hm,hl,h=>by
  have ih:=qij hB k (by omega) (fun j hj=>hd j (by omega));by_cases hkm:k∈mid
  ·
   have hdk:=hd k (by omega) k (by omega);have key:∀ (m:Nat) (mid:List Nat) (x:Int) (i:Nat),mid.length<=m->i<n->(∀ v∈mid,v<k+1)->mid.length<=n->WL es (k::(mid ++ [i])) x -> ∃ y,stages never n t k i k<=y/\y<=x/\y<=(n+1:Nat)*W:=by
    intro m
    induction m with
    | zero=>
     intro mid x i h1 h2 h3 h4 h5;have:mid = []:=List.eq_nil_of_length_eq_zero (by omega);subst this;have hb:=WL.bound hB.W0 hB.small h5;refine⟨x,ih i k [] x h2 (by omega) (by simp) (by simp) h5,Int.le_refl _,?_⟩;have h9:(1:Int)*W<=(n+1:Nat)*W:=Int.mul_le_mul_of_nonneg_right (by omega) hB.W0;have h10:x<=(1:Nat)*W:=hb.2;omega
    | succ m ihm=>
     intro mid x i h1 h2 h3 h4 h5;by_cases hkm:k∈mid
     ·obtain⟨a,b,rfl,hka⟩:=qkB hkm
      have h5':WL es ((k::a)++k::(b ++ [i])) x:=by simpa using h5
      obtain⟨x1,x2,g1,g2,g3⟩:=WL.split (k::a) h5';simp at h1 h4;obtain⟨y,y1,y2,y3⟩:=ihm b x1 i (by omega) h2 (fun v hv=>h3 v (by simp[hv])) (by omega) g1;have hc:=ih k k a x2 (by omega) (by omega) (fun v hv=>by
       have:=h3 v (by simp[hv]);have:v≠k:=by rintro rfl;exact hka hv
       omega) (by omega) g2
      exact⟨y,y1,by omega,y3⟩
     ·have hb:=WL.bound hB.W0 hB.small h5
      refine⟨x,ih i k mid x h2 (by omega) (fun v hv=>by
       have:=h3 v hv;have:v≠k:=by rintro rfl;exact hkm hv
       omega) h4 h5,Int.le_refl _,?_⟩
      have h10:x<=((k::(mid ++ [i])).length-1:Nat)*W:=hb.2;have h11:(((k::(mid ++ [i])).length-1:Nat):Int)*W<=(n+1:Nat)*W:=Int.mul_le_mul_of_nonneg_right (by simp;omega) hB.W0;omega
   obtain⟨a,b,rfl,hka⟩:=qkB hkm;have h':WL es ((j::a)++k::(b ++ [i])) x:=by simpa using h
   obtain⟨x1,x2,g1,g2,g3⟩:=WL.split (j::a) h';simp at hl;obtain⟨y,y1,y2,y3⟩:=key b.length b x1 i (Nat.le_refl _) hi (fun v hv=>hm v (by simp[hv])) (by omega) g1;have hc:=ih k j a x2 (by omega) hj (fun v hv=>by
    have:=hm v (by simp[hv]);have:v≠k:=by rintro rfl;exact hka hv
    omega) (by omega) g2
   have hb:=(WL.bound hB.W0 hB.small g2).2;have h11:(((j::a ++ [k]).length-1:Nat):Int)*W<=(n+1:Nat)*W:=Int.mul_le_mul_of_nonneg_right (by simp;omega) hB.W0;have hroom:=hB.room;have k1:y<never:=by omega
   have k2:x2<never:=by omega
   have:=qpS hi hj y1 hc k1 k2;show stageT never n (stages never n t k) k i j<=x;omega
  ·refine Int.le_trans (stageT_le never n _ k i j) (ih i j mid x hi hj (fun v hv=>?_) hl h)
   have:=hm v hv;have:v≠k:=by rintro rfl;exact hkm hv
   omega
theorem qdZ{es:List (Step Nat)}{never:Int}{n:Nat}{t:Tb}(h:WalksT es never t):∀ k,WalksT es never (stages never n t k)
 | 0=>h
 | k+1=>qeR _ (fun _ _ h=>qeR _ (fun _ _ h=>qnv h _ _ _) _ _ h) _ _ (qdZ h k)
theorem closed_short{es:List (Step Nat)}{N:List Nat}(hs:∀ c l x,l.length<=N.length->WL es (c::(l ++ [c])) x->0<=x):∀ (k:Nat) (c:Nat) (l:List Nat) (x:Int),l.length<=k->(∀ v∈l,v∈N)->WL es (c::(l ++ [c])) x->0<=x
 | k,c,l,x,hk,hN,h=>by
  by_cases hl:l.length<=N.length
  ·exact hs c l x hl h
  ·cases k with
   | zero=>omega
   | succ k=>
    obtain⟨a,d,b,e,rfl⟩:=qeQ (by omega) hN;have h':WL es ((c::a)++d::(b++d::(e ++ [c]))) x:=by simpa using h
    obtain⟨x1,x2,g1,g2,g3⟩:=WL.split (c::a) h';have g1':WL es ((d::b)++d::(e ++ [c])) x1:=by simpa using g1
    obtain⟨y1,y2,g4,g5,g6⟩:=WL.split (d::b) g1';simp at hk;have h1:=closed_short hs k d b y2 (by omega) (fun v hv=>hN v (by simp[hv])) g5;have h2:WL es (c::((a++d::e) ++ [c])) (y1+x2):=by
     have:=WL.join (c::a) g4 g2;simpa using this
    have h3:=closed_short hs k c (a++d::e) (y1+x2) (by simp;omega) (fun v hv=>hN v (by
     rcases List.mem_append.1 hv with hv|hv
     ·simp[hv]
     ·rcases List.mem_cons.1 hv with rfl|hv
      ·simp
      ·simp[hv])) h2
    omega
theorem table_good{es:List (Step Nat)}{never W:Int}{n:Nat}{t:Tb}(hB:Begin es never W n t)(hd:∀ m,m<n->0<=stages never n t n m m):NoNeg es /\ ∀ i,i<n->Dist es i fun j=>if j<n/\stages never n t n i j<never then some (stages never n t n i j) else none:=by
 have hall:∀ j,j<n -> ∀ m,m<n->0<=stages never n t j m m:=fun j hj m hm=>Int.le_trans (hd m hm) (qmb never n t (by omega) m m);have hw:=qij hB n (Nat.le_refl _) hall;have hN:∀ e∈es,e.a∈List.range n/\e.b∈List.range n:=fun e he=>⟨List.mem_range.2 (hB.nodes e he).1,List.mem_range.2 (hB.nodes e he).2⟩;have hno:NoNeg es:=by
  intro c m x h;by_cases hc:c<n
  ·obtain⟨l,h1,h2,h3,h4⟩:=h.wl hN (List.mem_range.2 hc)
   cases hl:l.reverse with
   | nil=>
    have:l = []:=by simpa using hl
    subst this;cases h2;exact Int.le_refl _
   | cons d r=>
    have e1:l=r.reverse ++ [d]:=by
     have:=congrArg List.reverse hl;simpa using this
    subst e1;have:d=c:=by simpa[List.getLast?_cons,List.getLast?_append]using h3
    subst this;refine closed_short (N:=List.range n) (fun c l x hl h=>?_) r.reverse.length d r.reverse x (Nat.le_refl _) (fun v hv=>h4 v (by simp at hv ⊢;simp[hv])) h2;simp at hl;have hcn:c<n /\ ∀ v∈l,v<n:=by
     have key:∀ {m:List Nat} {y:Int},WL es m y->2<=m.length -> ∀ v∈m,v<n:=by
      intro m y hm
      induction hm with
      | one a=>intro h;simp at h
      | snoc h e he hb ih=>
       rename_i b l x;intro _ v hv;rcases List.mem_cons.1 hv with rfl|hv
       ·exact(hB.nodes e he).2
       ·cases l with
        | nil=>
         simp at hv;subst hv;rw[<- hb];exact(hB.nodes e he).1
        | cons b' l'=>exact ih (by simp) v hv
     have:=key h (by simp);exact⟨this c (by simp),fun v hv=>this v (by simp[hv])⟩
    exact Int.le_trans (hd c hcn.1) (hw c c l x hcn.1 hcn.1 hcn.2 hl h)
  ·
   cases h with
   | nil=>exact Int.le_refl _
   | snoc h e he hb=>exact absurd (hB.nodes e he).2 hc
 refine⟨hno,fun i hi=>?_⟩;have short:∀ j m x,Walk es i j m x->j<n/\stages never n t n i j<=x/\stages never n t n i j<never:=by
  intro j m x h;have hj:j<n:=by
   cases h with
   | nil=>exact hi
   | snoc h e he hb=>exact(hB.nodes e he).2
  obtain⟨m',y,h1,h2,h3⟩:=h.short hN hno (List.mem_range.2 hi);obtain⟨l,g1,g2,g3,g4⟩:=h3.wl hN (List.mem_range.2 hi);have hyb:=(WL.bound hB.W0 hB.small g2).2;have hroom:=hB.room;have e0:(((j::l).length-1:Nat):Int)*W<=(n+1:Nat)*W:=Int.mul_le_mul_of_nonneg_right (by simp at h1 ⊢;omega) hB.W0;have hle:stages never n t n i j<=y:=by
   cases hl:l.reverse with
   | nil=>
    have:l = []:=by simpa using hl
    subst this;cases g2;simp at g3;subst g3;exact Int.le_trans (qmb never n t (Nat.zero_le n) j j) (hB.diag j hj)
   | cons d r=>
    have e1:l=r.reverse ++ [d]:=by
     have:=congrArg List.reverse hl;simpa using this
    subst e1;have:d=i:=by simpa[List.getLast?_cons,List.getLast?_append]using g3
    subst this;refine hw d j r.reverse y hi hj (fun v hv=>?_) (by simp at g1 h1 ⊢;omega) g2;have:=g4 v (by simp at hv ⊢;simp[hv]);simpa using this
  exact⟨hj,by omega,by omega⟩
 have hwt:=qdZ hB.walks (n:=n) n;refine⟨fun v x hx=>?_,fun e he x hx=>?_,?_⟩
 ·split at hx
  ·rename_i h;cases hx;exact hwt i v h.2
  ·cases hx
 ·split at hx
  ·rename_i h
   cases hx;obtain⟨m,h1⟩:=hwt i e.a h.2;obtain⟨h2,h3,h4⟩:=short e.b _ _ (Walk.snoc h1 e he rfl);exact⟨_,if_pos ⟨h2,h4⟩,h3⟩
  ·cases hx
 ·obtain⟨h2,h3,h4⟩:=short i 0 0 (.nil i)
  exact⟨_,if_pos ⟨h2,h4⟩,h3⟩
theorem table_diag{es:List (Step Nat)}{never W:Int}{n:Nat}{t:Tb}(hB:Begin es never W n t)(hno:NoNeg es)(k:Nat):∀ m,m<n->0<=stages never n t k m m:=by
 intro m hm;rcases Int.lt_or_le (stages never n t k m m) 0 with h|h
 ·have h0:0<never:=by
   have:=hB.room;have:=Int.mul_nonneg (show(0:Int)<=(n+1:Nat) by omega) hB.W0;omega
  obtain⟨l,hw⟩:=qdZ hB.walks (n:=n) k m m (by omega);have:=hno m l _ hw;omega
 ·exact h
end Go.PX.PG
namespace Go.PX
open Go.Proofs
structure PEnt where
 shown:Int
 kind:Int
 word:ByteArray
 number:Int
def PEnt.cells(x:PEnt):List D:=[i64 x.shown,i64 x.kind,.str x.word,i64 x.number]
def PEnt.d(x:PEnt):D:=.agg x.cells
structure PBook where
 name:ByteArray
 off:Span
 set:Span
 ents:List PEnt
def qeS(l:List PEnt):D:=.vs (l.map PEnt.cells)
def PBook.cells(b:PBook):List D:=.str b.name::(b.off.cells++b.set.cells ++ [qeS b.ents])
structure PLog where
 near:Int
 books:List PBook
def qS(l:List PBook):D:=.vs (l.map PBook.cells)
def PLog.cells(l:PLog):List D:=[i64 l.near,qS l.books]
def PLog.d(l:PLog):D:=.agg l.cells
structure PAt where
 book:Int
 entry:Int
 deriving DecidableEq
def PAt.cells(x:PAt):List D:=[i64 x.book,i64 x.entry]
def PAt.d(x:PAt):D:=.agg x.cells
structure Per where
 book:Int
 n:Int
 deriving DecidableEq
def Per.cells(x:Per):List D:=[i64 x.book,i64 x.n]
def Per.d(x:Per):D:=.agg x.cells
abbrev Per.right:Per:=⟨-1,0⟩
abbrev zu:=PG.Step Per
def qwP(s:zu):List D:=s.a.cells++s.b.cells ++ [i64 s.w]
section
variable {κ ν : Type} [DecidableEq κ]
def zr:List (κ×ν)->κ->Option ν
 | [],_=>none
 | (u,x)::r,t=>if t=u then some x else zr r t
def jJ:List (κ×ν)->κ->ν->List (κ×ν)
 | [],t,v=>[(t,v)]
 | (u,x)::r,t,v=>if t=u then (t,v)::r else (u,x)::jJ r t v
end
structure LkE where
 steps:List zu
 many:Int
 first:List (Int×PAt)
 now:Per
 of:List Per
 mine:List (Int×Int)
def jh(wider:Int)(p:Per)(s:Span):List zu:=[⟨.right,p,s.hi+wider⟩,⟨p,.right,wider-s.lo⟩]
def qmc(pers:List (List Per))(x:PAt):Per:=(((pers[x.book.toNat]?).getD [])[x.entry.toNat]?).getD .right
def qgk(l:PLog)(x:PAt):PEnt:=((((l.books[x.book.toNat]?).map (·.ents)).getD [])[x.entry.toNat]?).getD ⟨0,0,.empty,0⟩
def qqC(l:PLog)(wider:Int)(conf:List Int)(i:Nat)(b:PBook)(pers:List (List Per))(k:Nat)(y:PEnt)(s:LkE):LkE:=
 let of:=s.of ++ [s.now]
 let st:=if k=0 then s.steps else s.steps ++ [⟨(of[k-1]?).getD .right,s.now,y.shown-((b.ents[k-1]?).getD ⟨0,0,.empty,0⟩).shown⟩]
 if y.kind=2 then
  let now:Per:=⟨s.now.book,s.now.n+1⟩
  { s with of:=of,now:=now,steps:=st++jh wider now b.set,many:=s.many+1 }
 else if y.kind=3 then
  let n:=(zr s.mine y.number).getD 0+1
  let mine:=jJ s.mine y.number n
  if n>1\/y.number∈conf then { s with of:=of,steps:=st,mine:=mine }
  else match zr s.first y.number with
   | none=>{ s with of:=of,steps:=st,mine:=mine,first:=jJ s.first y.number ⟨i,k⟩ }
   | some at'=>
    let more:=y.shown-(qgk l at').shown
    let p:=qmc pers at'
    { s with of:=of,mine:=mine,steps:=st ++ [⟨p,s.now,more⟩,⟨s.now,p,-more⟩] }
 else { s with of:=of,steps:=st }
def qeT(l:PLog)(wider:Int)(conf:List Int)(i:Nat)(b:PBook)(pers:List (List Per)):Nat->List PEnt->LkE->LkE
 | _,[],s=>s
 | k,y::r,s=>qeT l wider conf i b pers (k+1) r (qqC l wider conf i b pers k y s)
structure LkS where
 steps:List zu
 many:Int
 first:List (Int×PAt)
 pers:List (List Per)
def qik(l:PLog)(wider:Int)(conf:List Int)(i:Nat)(b:PBook)(s:LkS):LkS:=
 let e:=qeT l wider conf i b s.pers 0 b.ents ⟨s.steps++jh wider ⟨i,0⟩ b.off,s.many+1,s.first,⟨i,0⟩,[],[]⟩
 ⟨e.steps,e.many,e.first,s.pers ++ [e.of]⟩
def qeU(l:PLog)(wider:Int)(conf:List Int):Nat->List PBook->LkS->LkS
 | _,[],s=>s
 | i,b::r,s=>qeU l wider conf (i+1) r (qik l wider conf i b s)
def qX(l:PLog)(wider:Int)(conf:List Int):LkS:=qeU l wider conf 0 l.books ⟨[],0,[],[]⟩
abbrev PM:=List (Per×Int)
def qgl(x:PM×Bool)(s:zu):PM×Bool:=match zr x.1 s.a with
 | none=>x
 | some n=>match zr x.1 s.b with
  | none=>(jJ x.1 s.b (n+s.w),true)
  | some m=>if n+s.w<m then (jJ x.1 s.b (n+s.w),true) else x
def qil(steps:List zu)(m:PM):PM×Bool:=steps.foldl qgl (m,false)
def qbY(steps:List zu):Nat->PM->PM
 | 0,m=>m
 | k+1,m=>if (qil steps m).2 then qbY steps k (qil steps m).1 else (qil steps m).1
def qcY(x:LkS)(p:Per):PM:=qbY x.steps (x.many+2).toNat [(p,0)]
def atM(m:PM)(p:Per):Int:=(zr m p).getD 0
def qoL(x:LkS)(m:PM):Bool:=x.steps.all fun s=>decide (atM m s.b<=atM m s.a+s.w)
section
variable {κ ν : Type} [DecidableEq κ]
theorem zA(m:List (κ×ν))(t u:κ)(y:ν):zr (jJ m t y) u=if u=t then some y else zr m u:=by
 induction m with
 | nil=>rfl
 | cons p r ih=>
  obtain⟨w,x⟩:=p;rw[jJ];split
  ·rename_i h
   subst h;rw[zr,zr];by_cases hu:u=t
   ·rw[if_pos hu,if_pos hu]
   ·rw[if_neg hu,if_neg hu,if_neg hu]
  ·rename_i h
   rw[zr,zr,ih];by_cases hu:u=w
   ·subst hu
    rw[if_pos rfl,if_pos rfl,if_neg (fun e=>h e.symm)]
   ·rw[if_neg hu,if_neg hu]
end
theorem qrO(x:PM×Bool)(s:zu):(fun p=>zr (qgl x s).1 p)=PG.relax (fun p=>zr x.1 p) s:=by
 unfold qgl PG.relax
 cases h1:zr x.1 s.a with
 | none=>
  simp only[h1]
 | some n=>
  simp only[h1]
  cases h2:zr x.1 s.b with
  | none=>
   simp only[h2]
   funext p
   exact zA ..
  | some m=>
   simp only[h2];split
   ·funext p
    exact zA ..
   ·rfl
theorem qtH{x:PM×Bool}{s:zu}(h:(qgl x s).2=false):qgl x s=x:=by
 unfold qgl at h ⊢;split
 ·rfl
 ·rename_i n h1
  rw[h1]at h;simp only at h;split
  ·rename_i h2
   rw[h2]at h;cases h
  ·rename_i m h2
   rw[h2]at h;simp only at h;split
   ·rename_i h3
    rw[if_pos h3]at h;cases h
   ·rfl
theorem qtI{x:PM×Bool}{s:zu}(h:x.2=true):(qgl x s).2=true:=by
 unfold qgl;split
 ·exact h
 ·split
  ·rfl
  ·split
   ·rfl
   ·exact h
theorem qmd:∀ (l:List zu) {x:PM×Bool},x.2=true->(l.foldl qgl x).2=true
 | [],x,h=>h
 | s::r,x,h=>qmd r (qtI h)
theorem qme:∀ (l:List zu) {x:PM×Bool},(l.foldl qgl x).2=false->l.foldl qgl x=x
 | [],x,_=>rfl
 | s::r,x,h=>by
  have h1:(qgl x s).2=false:=by
   cases hb:(qgl x s).2 with
   | false=>rfl
   | true=>rw[List.foldl_cons,qmd r hb]at h;cases h
  rw[List.foldl_cons,qtH h1]at h ⊢;exact qme r h
theorem qjx:∀ (l:List zu) (x:PM×Bool),(fun p=>zr (l.foldl qgl x).1 p)=l.foldl PG.relax (fun p=>zr x.1 p)
 | [],x=>rfl
 | s::r,x=>by
  rw[List.foldl_cons,List.foldl_cons,<- qrO];exact qjx r _
theorem qjy{es:List zu}{l:Per->Option Int}(h:PG.round es l=l):∀ k,PG.rounds es k l=l
 | 0=>rfl
 | k+1=>by rw[PG.rounds,h];exact qjy h k
theorem qim(es:List zu):∀ (k:Nat) (m:PM),(fun p=>zr (qbY es k m) p)=PG.rounds es k fun p=>zr m p
 | 0,m=>rfl
 | k+1,m=>by
  rw[qbY,PG.rounds];have h1:(fun p=>zr (qil es m).1 p)=PG.round es fun p=>zr m p:=qjx es (m,false);split
  ·rw[qim es k,h1]
  ·rename_i h
   have h2:qil es m=(m,false):=qme es (x:=(m,false)) (by
    cases hb:(es.foldl qgl (m,false)).2 with
    | false=>rfl
    | true=>exact absurd hb h)
   rw[h2]at h1 ⊢;have h3:PG.round es (fun p=>zr m p)=fun p=>zr m p:=h1.symm;rw[h3,qjy h3]
structure StarOk(x:LkS)(N:List Per):Prop where
 ends:∀ e∈x.steps,e.a∈N/\e.b∈N
 right:Per.right∈N
 len:(N.length:Int)<=x.many+1
 to':∀ p∈N,p ≠ .right -> ∃ e∈x.steps,e.a = .right/\e.b=p
 back:∀ p∈N,p ≠ .right -> ∃ e∈x.steps,e.a=p/\e.b = .right
theorem StarOk.reach{x:LkS}{N:List Per}(h:StarOk x N){p q:Per}(hp:p∈N)(hq:q∈N):∃ n w,n<=2/\PG.Walk x.steps p q n w:=by
 have h1:∃ n w,n<=1/\PG.Walk x.steps p .right n w:=by
  by_cases hpr:p = .right
  ·subst hpr;exact⟨0,0,by omega,.nil _⟩
  ·obtain⟨e,he,rfl,hb⟩:=h.back p hp hpr
   exact⟨1,e.w,by omega,hb▸PG.Walk.one he⟩
 have h2:∃ n w,n<=1/\PG.Walk x.steps .right q n w:=by
  by_cases hqr:q = .right
  ·subst hqr;exact⟨0,0,by omega,.nil _⟩
  ·obtain⟨e,he,ha,rfl⟩:=h.to' q hq hqr
   exact⟨1,e.w,by omega,ha▸PG.Walk.one he⟩
 obtain⟨n,w,hn,hw⟩:=h1;obtain⟨m,v,hm,hv⟩:=h2;exact⟨n+m,w+v,by omega,hw.trans hv⟩
theorem StarOk.known{x:LkS}{N:List Per}(h:StarOk x N){p q:Per}(hp:p∈N)(hq:q∈N):∃ v,zr (qcY x p) q=some v:=by
 obtain⟨n,w,hn,hw⟩:=h.reach hp hq;have hm:2<=(x.many+2).toNat:=by have:=h.len;have:=List.length_pos_of_mem h.right;omega
 obtain⟨y,hy,_⟩:=PG.rounds_le (es:=x.steps) (a:=p) (l:=fun q=>zr [(p,(0:Int))] q) ⟨0,by simp[zr],Int.le_refl _⟩ hw (x.many+2).toNat (by omega);have e:=congrFun (qim x.steps (x.many+2).toNat [(p,0)]) q;exact⟨y,by unfold qcY;rw[e];exact hy⟩
theorem qtJ(p:Per):(fun q=>zr [(p,(0:Int))] q)=fun v=>if v=p then some 0 else none:=by
 funext q
 rw[zr,zr]
theorem StarOk.dist{x:LkS}{N:List Per}(h:StarOk x N)(hno:PG.NoNeg x.steps){p:Per}(hp:p∈N):PG.Dist x.steps p fun q=>zr (qcY x p) q:=by
 unfold qcY;rw[qim,qtJ];exact PG.rounds_dist h.ends hno hp (by have:=h.len;omega)
theorem StarOk.fit{x:LkS}{N:List Per}(h:StarOk x N){p:Per}(hp:p∈N):qoL x (qcY x p)=true↔PG.NoNeg x.steps:=by
 unfold qoL;rw[List.all_eq_true];constructor
 ·intro hf
  refine PG.pot_noNeg (t:=fun q=>atM (qcY x p) q) fun e he=>?_;exact of_decide_eq_true (hf e he)
 ·intro hno e he
  have hd:=h.dist hno hp;obtain⟨v,hv⟩:=h.known hp (h.ends e he).1;obtain⟨y,hy,hle⟩:=hd.fix e he v hv;refine decide_eq_true ?_;unfold atM;rw[hv,hy];exact hle
def zn(l:List PEnt):Nat:=(l.filter fun y=>decide (y.kind=2)).length
theorem qjz(y:PEnt)(r:List PEnt):zn (y::r)=(if y.kind=2 then 1 else 0)+zn r:=by
 unfold zn;rw[List.filter_cons];by_cases h:y.kind=2
 ·rw[if_pos (by simpa using h),if_pos h,List.length_cons];omega
 ·rw[if_neg (by simpa using h),if_neg h];omega
def qkC(i:Nat)(b:PBook):List Per:=(List.range (zn b.ents+1)).map fun(n:Nat)=>⟨i,n⟩
def qaU:Nat->List PBook->List Per
 | _,[]=>[]
 | i,b::r=>qkC i b++qaU (i+1) r
def qY(l:PLog):List Per:=.right::qaU 0 l.books
def Starred(steps:List zu)(p:Per):Prop:=(∃ e∈steps,e.a = .right/\e.b=p) /\ ∃ e∈steps,e.a=p/\e.b = .right
theorem Starred.mono{st st':List zu}(h:∀ e∈st,e∈st'){p:Per}:Starred st p->Starred st' p
 | ⟨⟨e,he,ha⟩,f,hf,hb⟩=>⟨⟨e,h e he,ha⟩,f,h f hf,hb⟩
theorem qgM(wider:Int)(p:Per)(s:Span):Starred (jh wider p s) p:=
 ⟨⟨_,List.mem_cons_self ..,rfl,rfl⟩,⟨p,.right,wider-s.lo⟩,by simp[jh],rfl,rfl⟩
structure EntOk(N:List Per)(i:Nat)(c:Nat)(many:Int)(base:List zu)(s:LkE):Prop where
 now:s.now=⟨i,c⟩
 many:s.many=many+c
 ends:∀ e∈s.steps,e.a∈N/\e.b∈N
 of:∀ p∈s.of,p∈N
 sub:∀ e∈base,e∈s.steps
 star:∀ n:Nat,n<=c->Starred s.steps ⟨i,n⟩
theorem qoM{α:Type}{N:List α}{d:α}(hd:d∈N){l:List α}(hl:∀ p∈l,p∈N)(k:Nat):(l[k]?).getD d∈N:=by
 cases h:l[k]? with
 | none=>exact hd
 | some p=>exact hl p (List.mem_of_getElem? h)
theorem qmf{N:List Per}(hr:Per.right∈N){pers:List (List Per)}(hp:∀ l∈pers,∀ p∈l,p∈N)(x:PAt):qmc pers x∈N:=by
 unfold qmc;refine qoM hr (fun p hpm=>?_) _
 cases h:pers[x.book.toNat]? with
 | none=>rw[h]at hpm;cases hpm
 | some l=>rw[h]at hpm;exact hp l (List.mem_of_getElem? h) p hpm
theorem qvC{N:List Per}(hr:Per.right∈N){l:PLog}{wider:Int}{conf:List Int}{i:Nat}{b:PBook}{pers:List (List Per)}(hp:∀ l∈pers,∀ p∈l,p∈N){c:Nat}{many:Int}{base:List zu}{k:Nat}{y:PEnt}{s:LkE}(h:EntOk N i c many base s)(hc:(⟨i,c⟩:Per)∈N)(hc1:y.kind=2->(⟨i,(c+1:Nat)⟩:Per)∈N) :
  EntOk N i (c+if y.kind=2 then 1 else 0) many base (qqC l wider conf i b pers k y s):=by
 have hnow:s.now∈N:=by rw[h.now];exact hc
 have hof:∀ p∈s.of ++ [s.now],p∈N:=fun p hpm=>by
  rcases List.mem_append.1 hpm with hpm|hpm
  ·exact h.of p hpm
  ·rw[List.mem_singleton]at hpm;rw[hpm];exact hnow
 generalize hst:(if k=0 then s.steps else s.steps ++ [(⟨((s.of ++ [s.now])[k-1]?).getD .right,s.now,y.shown-((b.ents[k-1]?).getD ⟨0,0,.empty,0⟩).shown⟩:zu)])=st;have hsub:∀ e∈s.steps,e∈st:=fun e he=>by
  rw[<- hst];split
  ·exact he
  ·simp[he]
 have hend:∀ e∈st,e.a∈N/\e.b∈N:=fun e he=>by
  rw[<- hst]at he;split at he
  ·exact h.ends e he
  ·rcases List.mem_append.1 he with he|he
   ·exact h.ends e he
   ·rw[List.mem_singleton]at he
    rw[he];exact⟨qoM hr hof _,hnow⟩
 unfold qqC;simp only[hst];by_cases h2:y.kind=2
 ·rw[if_pos h2,if_pos h2]
  have hn1:=hc1 h2;have hnw:(⟨s.now.book,s.now.n+1⟩:Per)=⟨i,(c+1:Nat)⟩:=by rw[h.now];simp
  refine⟨hnw,by simp only;rw[h.many];omega,fun e he=>?_,hof,fun e he=>List.mem_append_left _ (hsub e (h.sub e he)),fun n hn=>?_⟩
  ·rcases List.mem_append.1 he with he|he
   ·exact hend e he
   ·unfold jh at he
    rw[hnw]at he;simp only[List.mem_cons,List.not_mem_nil,or_false]at he;rcases he with rfl|rfl
    ·exact⟨hr,hn1⟩
    ·exact⟨hn1,hr⟩
  ·by_cases hnc:n<=c
   ·exact(h.star n hnc).mono fun e he=>List.mem_append_left _ (hsub e he)
   ·have:n=c+1:=by omega
    subst this;refine Starred.mono (fun e he=>List.mem_append_right _ he) ?_;rw[hnw];exact qgM ..
 ·rw[if_neg h2,if_neg h2,Nat.add_zero]
  have keep:∀ (st':List zu) (mine:List (Int×Int)) (first:List (Int×PAt)),(∀ e∈st,e∈st')->(∀ e∈st',e.a∈N/\e.b∈N)->EntOk N i c many base { s with of:=s.of ++ [s.now],steps:=st',mine:=mine,first:=first }:=fun st' mine first h1 h3=>
   ⟨h.now,h.many,h3,hof,fun e he=>h1 e (hsub e (h.sub e he)),fun n hn=>(h.star n hn).mono fun e he=>h1 e (hsub e he)⟩
  by_cases h3:y.kind=3
  ·rw[if_pos h3]
   split
   ·exact keep st _ _ (fun e he=>he) hend
   ·split
    ·exact keep st _ _ (fun e he=>he) hend
    ·refine keep _ _ _ (fun e he=>List.mem_append_left _ he) fun e he=>?_
     rcases List.mem_append.1 he with he|he
     ·exact hend e he
     ·simp only[List.mem_cons,List.not_mem_nil,or_false]at he
      rcases he with rfl|rfl
      ·exact⟨qmf hr hp _,hnow⟩
      ·exact⟨hnow,qmf hr hp _⟩
  ·rw[if_neg h3]
   exact keep st _ _ (fun e he=>he) hend
theorem qoN{N:List Per}(hr:Per.right∈N){l:PLog}{wider:Int}{conf:List Int}{i:Nat}{b:PBook}{pers:List (List Per)}(hp:∀ l∈pers,∀ p∈l,p∈N){many:Int}{base:List zu}:∀ (r:List PEnt) {c k:Nat} {s:LkE},EntOk N i c many base s->(∀ n:Nat,n<=c+zn r->(⟨i,n⟩:Per)∈N) ->
  EntOk N i (c+zn r) many base (qeT l wider conf i b pers k r s)
 | [],c,k,s,h,_=>h
 | y::r,c,k,s,h,hN=>by
  rw[qjz]at hN ⊢;rw[qeT,<- Nat.add_assoc];refine qoN hr hp r (qvC hr hp h (hN c (by omega)) fun h2=>hN (c+1) (by rw[if_pos h2];omega)) fun n hn=>hN n (by omega)
structure LookOk(N:List Per)(done:List Per)(s:LkS):Prop where
 ends:∀ e∈s.steps,e.a∈N/\e.b∈N
 pers:∀ l∈s.pers,∀ p∈l,p∈N
 many:s.many=done.length
 star:∀ p∈done,Starred s.steps p
theorem qtK{N done:List Per}(hr:Per.right∈N){l:PLog}{wider:Int}{conf:List Int}{i:Nat}{b:PBook}{s:LkS}(h:LookOk N done s)(hN:∀ p∈qkC i b,p∈N):LookOk N (done++qkC i b) (qik l wider conf i b s):=by
 have hin:∀ n:Nat,n<=zn b.ents->(⟨i,n⟩:Per)∈N:=fun n hn=>hN _ (List.mem_map.2 ⟨n,List.mem_range.2 (by omega),rfl⟩);have h0:EntOk N i 0 (s.many+1) s.steps ⟨s.steps++jh wider ⟨i,0⟩ b.off,s.many+1,s.first,⟨i,0⟩,[],[]⟩:=by
  refine⟨rfl,by simp,fun e he=>?_,fun p hp=>by simp at hp,fun e he=>List.mem_append_left _ he,fun n hn=>?_⟩
  ·rcases List.mem_append.1 he with he|he
   ·exact h.ends e he
   ·unfold jh at he
    simp only[List.mem_cons,List.not_mem_nil,or_false]at he;have:=hin 0 (Nat.zero_le _);rcases he with rfl|rfl
    ·exact⟨hr,this⟩
    ·exact⟨this,hr⟩
  ·have:n=0:=by omega
   subst this;exact(qgM wider ⟨i,(0:Nat)⟩ b.off).mono fun e he=>List.mem_append_right _ he
 have h1:=qoN (l:=l) (wider:=wider) (conf:=conf) (b:=b) hr h.pers b.ents (k:=0) h0 (fun n hn=>hin n (by omega));rw[Nat.zero_add]at h1;unfold qik;refine⟨h1.ends,fun l' hl=>?_,?_,fun p hp=>?_⟩
 ·rcases List.mem_append.1 hl with hl|hl
  ·exact h.pers l' hl
  ·rw[List.mem_singleton]at hl;rw[hl];exact h1.of
 ·show(qeT _ _ _ _ _ _ _ _ _).many=_
  rw[h1.many,h.many,List.length_append];unfold qkC;rw[List.length_map,List.length_range];omega
 ·rcases List.mem_append.1 hp with hp|hp
  ·exact(h.star p hp).mono h1.sub
  ·obtain⟨n,hn,rfl⟩:=List.mem_map.1 hp
   exact h1.star n (by have:=List.mem_range.1 hn;omega)
theorem qkD{N:List Per}(hr:Per.right∈N){l:PLog}{wider:Int}{conf:List Int}:∀ (bs:List PBook) {i:Nat} {done:List Per} {s:LkS},LookOk N done s->(∀ p∈qaU i bs,p∈N)->LookOk N (done++qaU i bs) (qeU l wider conf i bs s)
 | [],i,done,s,h,_=>by rw[qaU,List.append_nil];exact h
 | b::r,i,done,s,h,hN=>by
  rw[qaU,qeU,<- List.append_assoc];rw[qaU]at hN;exact qkD hr r (qtK hr h fun p hp=>hN p (List.mem_append_left _ hp)) fun p hp=>hN p (List.mem_append_right _ hp)
theorem qfA(l:PLog)(wider:Int)(conf:List Int):StarOk (qX l wider conf) (qY l):=by
 have h:=qkD (N:=qY l) (l:=l) (wider:=wider) (conf:=conf) (by simp[qY]) l.books (i:=0) (done:=[]) (s:=⟨[],0,[],[]⟩) ⟨fun e he=>(by cases he),fun x hx=>(by cases hx),rfl,fun p hp=>(by cases hp)⟩ (fun p hp=>List.mem_cons_of_mem _ hp);rw[List.nil_append]at h;have hs:∀ p∈qY l,p ≠ .right->p∈qaU 0 l.books:=fun p hp hne=>by
  rcases List.mem_cons.1 hp with rfl|hp
  ·exact absurd rfl hne
  ·exact hp
 refine⟨h.ends,by simp[qY],?_,fun p hp hne=>(h.star p (hs p hp hne)).1,fun p hp hne=>(h.star p (hs p hp hne)).2⟩;show(((qY l).length:Nat):Int)<=(qeU l wider conf 0 l.books ⟨[],0,[],[]⟩).many+1;rw[h.many];simp[qY]
def qL(b:PBook)(k:Nat):Nat:=zn (b.ents.take k)
def zJ:List PEnt->Int->Nat->Option Nat
 | [],_,_=>none
 | y::r,n,k=>if y.kind=3/\y.number=n then some k else zJ r n (k+1)
theorem zQ:∀ {r:List PEnt} {n:Int} {k m:Nat},zJ r n k=some m -> ∃ y,k<=m/\r[m-k]?=some y/\y.kind=3/\y.number=n /\ ∀ j z,j<m-k->r[j]?=some z->¬ (z.kind=3/\z.number=n)
 | [],n,k,m,h=>by cases h
 | y::r,n,k,m,h=>by
  rw[zJ]at h;split at h
  ·rename_i h1
   cases h;exact⟨y,Nat.le_refl _,by simp,h1.1,h1.2,fun j z hj=>by omega⟩
  ·rename_i h1
   obtain⟨z,hk,hz,h2,h3,h4⟩:=zQ h;refine⟨z,by omega,?_,h2,h3,fun j w hj hw=>?_⟩
   ·rw[show m-k=(m-(k+1))+1 by omega,List.getElem?_cons_succ];exact hz
   ·cases j with
    | zero=>
     rw[List.getElem?_cons_zero]at hw;cases hw;exact h1
    | succ j=>
     rw[List.getElem?_cons_succ]at hw;exact h4 j w (by omega) hw
theorem qmg:∀ {r:List PEnt} {n:Int} {k j:Nat} {y:PEnt},r[j]?=some y->y.kind=3->y.number=n->(∀ i z,i<j->r[i]?=some z->¬ (z.kind=3/\z.number=n))->zJ r n k=some (k+j)
 | [],n,k,j,y,h,_,_,_=>by simp at h
 | z::r,n,k,0,y,h,h1,h2,_=>by
  rw[List.getElem?_cons_zero]at h;cases h;rw[zJ,if_pos ⟨h1,h2⟩];rfl
 | z::r,n,k,j+1,y,h,h1,h2,h3=>by
  rw[List.getElem?_cons_succ]at h;rw[zJ,if_neg (h3 0 z (by omega) rfl),qmg (k:=k+1) h h1 h2 fun i w hi hw=>h3 (i+1) w (by omega) (by rw[List.getElem?_cons_succ];exact hw)]
  congr 1;omega
theorem qin{r:List PEnt}{n:Int}{j:Nat}{y:PEnt}(h:r[j]?=some y)(h1:y.kind=3)(h2:y.number=n):∃ m,m<=j/\zJ r n 0=some m:=by
 induction j using Nat.strongRecOn generalizing y with
 | _ j ih=>
  by_cases hn:∃ i z,i<j/\r[i]?=some z/\z.kind=3/\z.number=n
  ·obtain⟨i,z,hi,hz,h3,h4⟩:=hn
   obtain⟨m,hm,he⟩:=ih i hi hz h3 h4;exact⟨m,by omega,he⟩
  ·have:=qmg (k:=0) h h1 h2 fun i z hi hz h3=>hn ⟨i,z,hi,hz,h3.1,h3.2⟩
   exact⟨j,Nat.le_refl _,by rw[this,Nat.zero_add]⟩
structure At(l:PLog)(i k:Nat)(b:PBook)(x:PEnt):Prop where
 book:l.books[i]?=some b
 ent:b.ents[k]?=some x
def qcx(i j:Nat)(b c:PBook)(m n:Nat)(x y:PEnt):zu:=⟨⟨i,qL b m⟩,⟨j,qL c n⟩,y.shown-x.shown⟩
structure Rep(l:PLog)(conf:List Int)(i j m n:Nat)(b c:PBook)(x y:PEnt)(num:Int):Prop where
 ha:At l i m b x
 hb:At l j n c y
 fa:zJ b.ents num 0=some m
 fb:zJ c.ents num 0=some n
 no:num∉conf
inductive Just(l:PLog)(wider:Int)(conf:List Int):zu->Prop
 | off (i:Nat) (b:PBook) (hb:l.books[i]?=some b) (e:zu) (he:e∈jh wider ⟨i,0⟩ b.off):Just l wider conf e
 | set (i:Nat) (b:PBook) (hb:l.books[i]?=some b) (n:Nat) (h1:1<=n) (h2:n<=zn b.ents) (e:zu) (he:e∈jh wider ⟨i,n⟩ b.set):Just l wider conf e
 | ord (i k:Nat) (b:PBook) (x y:PEnt) (hx:At l i k b x) (hy:At l i (k+1) b y):Just l wider conf (qcx i i b b k (k+1) x y)
 | rep (i j m n:Nat) (b c:PBook) (x y:PEnt) (num:Int) (h:Rep l conf i j m n b c x y num):Just l wider conf (qcx i j b c m n x y)
def jP(i:Nat)(b:PBook):List Per:=(List.range b.ents.length).map fun(m:Nat)=>⟨i,qL b m⟩
theorem qpT{b:PBook}{k:Nat}{y:PEnt}(h:b.ents[k]?=some y):qL b (k+1)=qL b k+if y.kind=2 then 1 else 0:=by
 unfold qL zn;have hl:=(List.getElem?_eq_some_iff.1 h).1;rw[List.take_succ,h];show(List.filter _ (b.ents.take k ++ [y])).length=_;rw[List.filter_append,List.length_append,List.filter_cons];by_cases h2:y.kind=2
 ·rw[if_pos (by simpa using h2),if_pos h2];simp
 ·rw[if_neg (by simpa using h2),if_neg h2];simp
theorem jf(b:PBook)(k:Nat):qL b k<=zn b.ents:=by
 unfold qL zn;exact(List.Sublist.filter _ (List.take_sublist k b.ents)).length_le
theorem qrP(b:PBook):qL b b.ents.length=zn b.ents:=by unfold qL;rw[List.take_length]
def Both(l:PLog)(st:List zu)(r:PAt)(j n:Nat)(c:PBook)(y:PEnt):Prop:=
 ∃ (i m:Nat) (b:PBook) (x:PEnt),r=⟨i,m⟩/\At l i m b x/\qcx i j b c m n x y∈st/\qcx j i c b n m y x∈st
theorem Both.mono{l:PLog}{st st':List zu}(h:∀ e∈st,e∈st'){r:PAt}{j n:Nat}{c:PBook}{y:PEnt}:Both l st r j n c y->Both l st' r j n c y
 | ⟨i,m,b,x,h1,h2,h3,h4⟩=>⟨i,m,b,x,h1,h2,h _ h3,h _ h4⟩
def Ahead(i k j m:Nat):Prop:=j<i\/(j=i/\m<k)
structure EInv(l:PLog)(wider:Int)(conf:List Int)(i k:Nat)(b:PBook)(pers:List (List Per))(s:LkE):Prop where
 now:s.now=⟨i,qL b k⟩
 of:s.of=(List.range k).map fun(m:Nat)=>⟨i,qL b m⟩
 mine:∀ num,(0<=(zr s.mine num).getD 0)/\(1<=(zr s.mine num).getD 0 ↔ ∃ m,m<k/\zJ b.ents num 0=some m)
 fst:∀ num r,zr s.first num=some r -> ∃ (j m:Nat) (c:PBook) (x:PEnt),r=⟨j,m⟩/\At l j m c x/\zJ c.ents num 0=some m/\num∉conf/\Ahead i k j m
 got:∀ (j m:Nat) (c:PBook) (y:PEnt) num,At l j m c y->zJ c.ents num 0=some m->num∉conf->Ahead i k j m -> ∃ r,zr s.first num=some r/\(r=⟨j,m⟩\/Both l s.steps r j m c y)
 sub:∀ e∈s.steps,Just l wider conf e
 off:∀ (j:Nat) c,l.books[j]?=some c->j<=i -> ∀ e∈jh wider ⟨j,0⟩ c.off,e∈s.steps
 set:∀ (j:Nat) c n,l.books[j]?=some c->1<=n->(j<i/\n<=zn c.ents\/j=i/\n<=qL b k) -> ∀ e∈jh wider ⟨j,(n:Nat)⟩ c.set,e∈s.steps
 ord:∀ (j m:Nat) c x y,At l j m c x->At l j (m+1) c y->Ahead i k j (m+1)->qcx j j c c m (m+1) x y∈s.steps
structure LInv(l:PLog)(wider:Int)(conf:List Int)(i:Nat)(s:LkS):Prop where
 pers:s.pers.length=i /\ ∀ (j:Nat) c,l.books[j]?=some c->j<i->s.pers[j]?=some (jP j c)
 fst:∀ num r,zr s.first num=some r -> ∃ (j m:Nat) (c:PBook) (x:PEnt),r=⟨j,m⟩/\At l j m c x/\zJ c.ents num 0=some m/\num∉conf/\j<i
 got:∀ (j m:Nat) (c:PBook) (y:PEnt) num,At l j m c y->zJ c.ents num 0=some m->num∉conf->j<i -> ∃ r,zr s.first num=some r/\(r=⟨j,m⟩\/Both l s.steps r j m c y)
 sub:∀ e∈s.steps,Just l wider conf e
 off:∀ (j:Nat) c,l.books[j]?=some c->j<i -> ∀ e∈jh wider ⟨j,0⟩ c.off,e∈s.steps
 set:∀ (j:Nat) c n,l.books[j]?=some c->1<=n->j<i->n<=zn c.ents -> ∀ e∈jh wider ⟨j,(n:Nat)⟩ c.set,e∈s.steps
 ord:∀ (j m:Nat) c x y,At l j m c x->At l j (m+1) c y->j<i->qcx j j c c m (m+1) x y∈s.steps
theorem jK{j:Nat}{c:PBook}{m:Nat}(h:m<c.ents.length):(jP j c)[m]?=some ⟨j,qL c m⟩:=by
 unfold jP;rw[List.getElem?_map,List.getElem?_range h];rfl
theorem jE{l:PLog}{j m:Nat}{c:PBook}{x:PEnt}(h:At l j m c x):qgk l ⟨j,m⟩=x:=by
 unfold qgk;simp only[Int.toNat_natCast,h.book,Option.map_some,Option.getD_some,h.ent]
theorem qaP{l:PLog}{pers:List (List Per)}{j m:Nat}{c:PBook}{x:PEnt}(h:At l j m c x)(hp:pers[j]?=some (jP j c)):qmc pers ⟨j,m⟩=⟨j,qL c m⟩:=by
 unfold qmc;simp only[Int.toNat_natCast,hp,Option.getD_some,jK (List.getElem?_eq_some_iff.1 h.ent).1]
end Go.PX
