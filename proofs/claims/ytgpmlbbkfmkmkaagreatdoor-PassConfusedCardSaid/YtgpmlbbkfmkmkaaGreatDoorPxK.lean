import Derived.Test.YtgpmlbbkfmkmkaaGreatDoorPxJ
set_option linter.all false
set_option maxRecDepth 10000
namespace Go.PX
open Go.RowKit
def qnX{σ:Type}(P:Program)(T:Tys)(Y:Hd σ)(ops:List Oper)(o:Option Oper)(e:Env)(h:Heap)(s:σ)(go:Env->Heap->σ->Prop):Prop:=
 match o with
 | some ⟨dst,op,_,_,_,guard⟩=>qdt ops e guard (fun w=>qD w e h fun e h=>qmw P T Y dst op e h s go) (fun w=>qD w e h fun e h=>qD (wset dst (.d (.tup []))) e h fun e h=>go e h s)
 | none=>False
def qgv:List Bool->Nat->Bool
 | [],_=>true
 | b::_,0=>b
 | _::r,n+1=>qgv r n
def qgw(ls:List Bool):List Nat->Bool
 | []=>true
 | i::r=>qgv ls i&&qgw ls r
def qgx(ls:List Bool):Nat->List (List Nat)->List Bool->List Nat
 | _,[],_=>[]
 | _,_,[]=>[]
 | i,d::ds,b::bs=>match b,qgw ls d with
  | false,true=>i::qgx ls (i+1) ds bs
  | _,_=>qgx ls (i+1) ds bs
def qol:List Bool->Nat->List Bool
 | [],_=>[]
 | _::r,0=>true::r
 | b::r,n+1=>b::qol r n
noncomputable def qoS(l:List Nat)(f:Nat->Prop):Prop:=
 List.rec (motive:=fun _=>Prop) True (fun i _ ih=>f i/\ih) l
theorem qlu{f:Nat->Prop}:∀ {l:List Nat},qoS l f ↔ ∀ i∈l,f i
 | []=>by simp[qoS]
 | i::r=>by
  have:=qlu (f:=f) (l:=r);simp only[qoS]at this ⊢;rw[this];simp
noncomputable def qmY{σ:Type}(P:Program)(T:Tys)(Y:Hd σ)(ops:List Oper)(deps:List (List Nat))(n:Nat):List Bool->Env->Heap->σ->(Env->Heap->σ->Prop)->Prop:=
 Nat.rec (motive:=fun _=>List Bool->Env->Heap->σ->(Env->Heap->σ->Prop)->Prop) (fun _ e h s K=>K e h s)
  (fun _ ih ls e h s K=>qoS (qgx ls 0 deps ls) fun i=>qnX P T Y ops ops[i]? e h s fun e h s=>ih (qol ls i) e h s K) n
def qgy:List Oper->List (List Nat)->Bool
 | [],[]=>true
 | o::r,d::ds=>d.all (fun i=>o.after.toList.any fun e=>Region.binds .any e&&Nat.beq e.on i)&&qgy r ds
 | _,_=>false
theorem qdL:∀ {l:List Oper} {ds:List (List Nat)},qgy l ds=true->l.length=ds.length /\ ∀ (i:Nat) (o:Oper) (d:List Nat),l[i]?=some o->ds[i]?=some d -> ∀ j∈d,∃ e∈o.after,Region.binds .any e=true/\e.on=j
 | [],[],_=>⟨rfl,fun i o d h=>by simp at h⟩
 | [],_::_,h=>by simp[qgy]at h
 | _::_,[],h=>by simp[qgy]at h
 | o::r,d::ds,h=>by
  simp only[qgy,Bool.and_eq_true,List.all_eq_true]at h;obtain⟨h1,h2⟩:=qdL h.2;refine⟨by simp[h1],fun i o' d' ho hd j hj=>?_⟩
  cases i with
  | zero=>
   simp at ho hd;subst ho;subst hd;have:=h.1 j hj;simp only[List.any_eq_true,Bool.and_eq_true]at this;obtain⟨e,he,hb,hq⟩:=this;exact⟨e,by simpa using he,hb,Nat.eq_of_beq_eq_true hq⟩
  | succ i=>exact h2 i o' d' (by simpa using ho) (by simpa using hd) j hj
theorem qhx:∀ {ls:List Bool} {i:Nat},qgv ls i=ls.toArray.getD i true
 | [],i=>by simp[qgv,Array.getD_eq_getD_getElem?]
 | b::r,0=>by simp[qgv,Array.getD_eq_getD_getElem?]
 | b::r,n+1=>by
  have:=qhx (ls:=r) (i:=n);simp only[qgv,this,Array.getD_eq_getD_getElem?];simp
theorem qhy{ls:List Bool}:∀ {d:List Nat},(∀ j∈d,qgv ls j=true)->qgw ls d=true
 | [],_=>rfl
 | i::r,h=>by
  have h1:=qhy (ls:=ls) (d:=r) fun j hj=>h j (List.mem_cons_of_mem _ hj);simp[qgw,h i (by simp),h1]
theorem qhz{ls:List Bool}:∀ {ds:List (List Nat)} {bs:List Bool} {k i:Nat} {d:List Nat},ds[i]?=some d->bs[i]?=some false->qgw ls d=true->k+i∈qgx ls k ds bs
 | [],_,_,i,d,h,_,_=>by simp at h
 | _::_,[],_,i,d,_,h,_=>by simp at h
 | x::ds,b::bs,k,i,d,hd,hb,ha=>by
  cases i with
  | zero=>
   simp at hd hb;subst hd;subst hb;simp[qgx,ha]
  | succ i=>
   have:=qhz (ls:=ls) (ds:=ds) (bs:=bs) (k:=k+1) (i:=i) (by simpa using hd) (by simpa using hb) ha;rw[show k+(i+1)=k+1+i by omega];simp only[qgx]
   split
   ·exact List.mem_cons_of_mem _ this
   ·exact this
theorem qiv:∀ {ls:List Bool} {i:Nat},qol ls i=ls.set i true
 | [],i=>by simp[qol]
 | b::r,0=>rfl
 | b::r,n+1=>by simp[qol,qiv (ls:=r)]
def unl:List Bool->Nat
 | []=>0
 | true::r=>unl r
 | false::r=>unl r+1
theorem qmZ:∀ {ls:List Bool} {i:Nat},ls[i]?=some false->unl (ls.set i true)+1=unl ls
 | [],i,h=>by simp at h
 | b::r,0,h=>by
  simp at h;subst h;simp[unl]
 | b::r,i+1,h=>by
  have:=qmZ (ls:=r) (i:=i) (by simpa using h)
  cases b<;>simp[unl,this]
theorem qna:∀ {ls:List Bool},0<unl ls -> ∃ i:Nat,ls[i]?=some false /\ ∀ j:Nat,j<i->ls[j]?=some true
 | [],h=>by simp[unl]at h
 | false::r,_=>⟨0,rfl,fun j hj=>by omega⟩
 | true::r,h=>by
  obtain⟨i,h1,h2⟩:=qna (ls:=r) (by simpa[unl]using h);refine⟨i+1,by simpa using h1,fun j hj=>?_⟩
  cases j with
  | zero=>rfl
  | succ j=>simpa using h2 j (by omega)
theorem qlv:∀ {ls:List Bool},unl ls=0 -> ∀ i:Nat,ls[i]?≠some false
 | [],_,i=>by simp
 | false::r,h,i=>by simp[unl]at h
 | true::r,h,i=>by
  cases i with
  | zero=>simp
  | succ i=>simpa using qlv (ls:=r) (by simpa[unl]using h) i
section
variable {P : Program} {T : Tys} {σ : Type} {Y : Hd σ} {cx : Cx σ} {r : Option Nat} {m : List Nat}
theorem qcU{ls:List Bool}{i:Nat}:ls.toArray.getD i true=false↔ls[i]?=some false:=by
 rw[Array.getD_eq_getD_getElem?];simp only[List.getElem?_toArray]
 cases ls[i]? with
 | none=>simp
 | some b=>simp
theorem qeo{ls:List Bool}{i:Nat}:ls.toArray.getD i false=true↔ls[i]?=some true:=by
 rw[Array.getD_eq_getD_getElem?];simp only[List.getElem?_toArray]
 cases ls[i]? with
 | none=>simp
 | some b=>simp
theorem wpAnyA_sound(hT:qJ P T)(hY:Handles P Y cx){ops:Array Oper}{deps:List (List Nat)}(hback:qfZ 0 ops.toList=true)(hdeps:qgy ops.toList deps=true){F0:Nat->Nat}{w0:World}{n0:Nat}(hd:∀ o∈ops.toList,∀ d,o.dst=some d->d<n0){K:Env->Heap->σ->Prop} :
  ∀ (n:Nat) {ls:List Bool} {e:Env} {h:Heap} {s:σ} {L:Loc} {F:Nat->Nat} {a:Act} {w:World},ls.length=ops.size->unl ls=n->Good cx r m L F ⟨e,h,s⟩ a w->a.tmps.size=n0->Tr F0 w0 F w ->
   qmY P T Y ops.toList deps n ls e h s K->wpAnyIn (fr r) 0 P .any ops (qee Y cx r m F0 w0 n0 K) n ls.toArray a w:=by
 obtain⟨hdl,hds⟩:=qdL hdeps;have hdl:ops.size=deps.length:=by simpa using hdl
 intro n
 induction n with
 | zero=>
  intro ls e h s L F a w hl hu hg hs tr hk;refine⟨?_,.inl ⟨e,h,s,L,F,rfl,hk,hg,tr,hs⟩⟩
  cases hr:Region.ready .any ops ls.toArray with
  | nil=>rfl
  | cons i _=>
   have:i∈Region.ready .any ops ls.toArray:=by rw[hr];exact List.mem_cons_self ..
   have:=qcU.1 (mem_ready.1 this).1;exact absurd this (qlv hu i)
 | succ n ih=>
  intro ls e h s L F a w hl hu hg hs tr hk;refine⟨fun hr=>?_,fun i hi=>?_⟩
  ·exfalso
   obtain⟨i,h1,h2⟩:=qna (ls:=ls) (by omega);have his:i<ops.size:=by rw[<- hl];exact(List.getElem?_eq_some_iff.1 h1).1
   have:i∈Region.ready .any ops ls.toArray:=by
    rw[mem_ready];refine⟨qcU.2 h1,ops[i],Array.getElem?_eq_getElem his,fun e he hb=>?_⟩;have hlt:=qco hback i ops[i] (by simp) e he hb;exact qeo.2 (h2 e.on (by omega))
   rw[hr]at this
   cases this
  ·obtain⟨hjl,oj,hoj,hedges⟩:=mem_ready.1 hi
   have his:i<ops.size:=(Array.getElem?_eq_some_iff.1 hoj).1;have hli:=qcU.1 hjl;have hk:qoS (qgx ls 0 deps ls) fun i=>qnX P T Y ops.toList ops.toList[i]? e h s fun e h s=>qmY P T Y ops.toList deps n (qol ls i) e h s K:=hk;have hdi:deps[i]?=some (deps[i]'(by omega)):=List.getElem?_eq_getElem _;have hki:=qlu.1 hk i (by
    have:=qhz (ls:=ls) (ds:=deps) (bs:=ls) (k:=0) (i:=i) hdi hli (qhy fun j hj=>by
     obtain⟨e,he,hb,rfl⟩:=hds i oj _ (by simpa using hoj) hdi j hj;have:=hedges e he hb;rw[qhx];have:=qeo.1 this;rw[Array.getD_eq_getD_getElem?];simp[this])
    simpa using this)
   have hot:ops.toList[i]?=some oj:=by simpa using hoj
   rw[hot]at hki;obtain⟨dst,op,ty,pos,after,guard⟩:=oj;refine qho hT hY hoj hg (fun d hdst=>by rw[hs];exact hd _ (List.mem_of_getElem? hot) d hdst) hki (fun e' h' s' L' F' a' w' hg' hs' tr' hk'=>?_) fun e' a' w' hp=>.inr (hp.trans tr hs);have hset:ls.toArray.setIfInBounds i true=(qol ls i).toArray:=by rw[qiv];simp
   rw[hset];refine ih (by rw[qiv];simpa using hl) ?_ hg' (hs'.trans hs) (Tr.trans tr tr') hk';rw[qiv];have:=qmZ hli;omega
variable {ft : FT}
theorem RegionA_all(hm:P.follows .mixedOrders=true)(hT:qJ P T)(deps:List (List Nat)){id:Nat}{ops:Array Oper}(hst:(qfZ 0 ops.toList&&qgy ops.toList deps)=true){e:Env}{h:Heap}{s:σ}{K:AExit->St σ->Prop}
  (hk:qmY P T Y ops.toList deps deps.length (deps.map fun _=>false) e h s fun e h s=>jx (qH ft.ks e) fun e=>K .normal ⟨e,h,s⟩):RegionA P ft Y id ops ⟨e,h,s⟩ K:=by
 refine⟨fun cx hY r m L F a w hg hc=>?_⟩;rw[Bool.and_eq_true]at hst;obtain⟨hdl,_⟩:=qdL hst.2;have hdl:ops.size=deps.length:=by simpa using hdl
 refine wpIn_mono (wpIn_region_any (id:=id) (Q:=qee Y cx r m F w a.tmps.size (fun e h s=>jx (qH ft.ks e) fun e=>K .normal ⟨e,h,s⟩)) hm ?_) fun ex a' w' hq=>?_
 ·have hrep:Array.replicate ops.size false=(deps.map fun _=>false).toArray:=by
   rw[hdl];have:∀ l:List (List Nat),(l.map fun _=>false)=List.replicate l.length false:=by
    intro l
    induction l with
    | nil=>rfl
    | cons x r ih=>rw[List.map_cons,ih];rfl
   rw[this];simp
  have hunl:∀ l:List (List Nat),unl (l.map fun _=>false)=l.length:=by
   intro l
   induction l with
   | nil=>rfl
   | cons x r ih=>simp[unl,ih]
  rw[hrep,hdl];exact wpAnyA_sound hT hY hst.1 hst.2 (qef hc) deps.length (by simp[hdl]) (hunl deps) (hg.same (w':={ w with drawn:=w.drawn+1 }) rfl rfl rfl rfl) rfl (Tr.drew _) hk
 ·rcases hq with⟨e',h',s',L',F',hex,hk,hg',tr,hs⟩ | hp
  case inr=>exact .inr hp
  rw[jL]at hk;exact .inl ⟨.normal,_,m,L',F',hex,hk,hg'.sub (jz ft.ks e') (fun _ _ h=>h),tr,hs⟩
end
end Go.PX
namespace Go.PX
mutual
def relax:D->D
 | .agg cs=>.agg (qep cs)
 | .tup cs=>.tup (qep cs)
 | .vs es=>.vs (qjA es)
 | .nils=>.vs []
 | .ref cs=>.ref (qep cs)
 | .bool b=>.bool b
 | .int k n=>.int k n
 | .str s=>.str s
 | .nilp=>.nilp
 | .mv kvs=>.mv kvs
 | .nilm=>.nilm
 | .clo f caps=>.clo f caps
 | .mth f first=>.mth f first
 | .nilf=>.nilf
 | .ifc t v=>.ifc t v
 | .nili=>.nili
def qep:List D->List D
 | []=>[]
 | c::r=>relax c::qep r
def qjA:List (List D)->List (List D)
 | []=>[]
 | c::r=>qep c::qjA r
end
theorem qeq:∀ l:List D,(qep l).length=l.length
 | []=>rfl
 | c::r=>by simp only[qep,List.length_cons,qeq r]
theorem qer:∀ l:List (List D),(qjA l).length=l.length
 | []=>rfl
 | c::r=>by simp only[qjA,List.length_cons,qer r]
mutual
theorem RepD.relax{F:Nat->Nat}{w:World}:∀ (a:D) (v:Value),RepD F w a v->RepD F w (relax a) v
 | .agg cs,_,hr=>by
  obtain⟨l,rfl,hl⟩:=hr;exact⟨l,rfl,RepDL.relax cs _ hl⟩
 | .tup cs,_,hr=>by
  obtain⟨l,rfl,hl⟩:=hr;exact⟨l,rfl,RepDL.relax cs _ hl⟩
 | .vs es,_,hr=>by
  obtain⟨a,len,cap,rfl,hl,hc,he⟩:=hr;refine⟨a,len,cap,rfl,by rw[qer];exact hl,hc,fun hne=>?_⟩;obtain⟨b,off,sz,ha,hs,hes⟩:=he (by rintro rfl;exact hne rfl);exact⟨b,off,sz,ha,hs,RepEs.relax es b off sz hes⟩
 | .nils,_,hr=>by
  have hx:_=Value.slice none 0 0:=hr;subst hx;exact⟨none,0,0,rfl,rfl,Nat.le_refl _,fun h=>absurd rfl h⟩
 | .ref cs,_,hr=>by
  obtain⟨b,off,rfl,hc⟩:=hr;exact⟨b,off,rfl,RepAt.relax cs b off hc⟩
 | .bool _,_,hr=>hr
 | .int _ _,_,hr=>hr
 | .str _,_,hr=>hr
 | .nilp,_,hr=>hr
 | .mv _,_,hr=>hr
 | .nilm,_,hr=>hr
 | .clo _ _,_,hr=>hr
 | .mth _ _,_,hr=>hr
 | .nilf,_,hr=>hr
 | .ifc _ _,_,hr=>hr
 | .nili,_,hr=>hr
theorem RepDL.relax{F:Nat->Nat}{w:World}:∀ (cs:List D) (l:List Value),RepDL F w cs l->RepDL F w (qep cs) l
 | [],_,hr=>hr
 | c::r,_,hr=>by
  obtain⟨x,l',rfl,hc,hl⟩:=hr;exact⟨x,l',rfl,RepD.relax c x hc,RepDL.relax r l' hl⟩
theorem RepAt.relax{F:Nat->Nat}{w:World}:∀ (cs:List D) (b off:Nat),RepAt F w b off cs->RepAt F w b off (qep cs)
 | [],_,_,_=>trivial
 | c::r,b,off,hr=>by
  obtain⟨hf,⟨x,hx,hc⟩,hl⟩:=hr;exact⟨hf,⟨x,hx,RepD.relax c x hc⟩,RepAt.relax r b (off+1) hl⟩
theorem RepEs.relax{F:Nat->Nat}{w:World}:∀ (es:List (List D)) (b off sz:Nat),RepEs F w b off sz es->RepEs F w b off sz (qjA es)
 | [],_,_,_,_=>trivial
 | e::r,b,off,sz,hr=>by
  obtain⟨hn,he,hl⟩:=hr;exact⟨by rw[qeq];exact hn,RepAt.relax e b off he,RepEs.relax r b (off+sz) sz hl⟩
end
theorem FnV.relax{P:Program}{f:FuncId}{ds:List D}{r:D}(h:FnV P f ds r){r':D}(hr:PX.relax r=r'):FnV P f ds r':=by
 subst hr;intro σ Y s;obtain⟨h1,h2⟩:=h Y s;refine⟨h1,fun cx hY L F vals w hh hv=>(h2 cx hY L F vals w hh hv).mono ?_⟩;rintro e w' ⟨x,rfl,v,h',s',L',F',⟨⟨rfl,rfl⟩,rfl⟩,hh',hx,tr,hp⟩;exact⟨x,rfl,_,_,_,L',F',⟨⟨rfl,rfl⟩,rfl⟩,hh',RepD.relax r x hx,tr,hp⟩
section
variable {P : Program} {σ : Type} {Y : Hd σ}
theorem YldA_y{args0:List V}{h0:Heap}{s:σ}{Q:V->Heap->σ->Prop}(tb:List Nat){e:Env}{h:Heap}{d:Option Nat}{args:List V}{K:St σ->Prop}(hy:Y.y args0 h0 s Q)
  (hargs:qlW (qaa tb (d.getD 0)) args0=args) (hlent:qbP (qaa tb (d.getD 0)) h 1000000 tb h0) (htb:qby tb=true) (hln:Nat.ble tb.length 1000=true)
  (hq:∀ v h1 s',Q v h1 s'->qbi tb d v h1=true/\qD (zr tb d v h1) e h fun e h=>K ⟨e,h,s'⟩):YldA P Y ⟨e,h,s⟩ d args K:=by
 refine yldY_of tb hy hargs hlent htb hln fun v h1 s' hv=>?_;obtain⟨h2,h3⟩:=hq v h1 s' hv;refine⟨h2,?_⟩;rw[zh s']at h3;have hs:(qp (⟨e,h,s'⟩:St σ) (zr tb d v h1)).s=s':=zF _ _;generalize qp (⟨e,h,s'⟩:St σ) (zr tb d v h1)=st at h3 hs;obtain⟨e1,h1,s1⟩:=st;simp only at hs;subst hs;exact h3
end
theorem CallA_rep{P:Program}{σ:Type}{Y:Hd σ}{st:St σ}{d:Option Nat}{f:FuncId}{args args':List V}{K:St σ->Prop}(h:∀ (yv:Option Nat) (L:Loc) (F:Nat->Nat) (w:World) (l:List Value),RepVL yv L F w args l->RepVL yv L F w args' l)(hc:CallA P Y st d f args' K):CallA P Y st d f args K:=by
 obtain⟨h1,h2⟩:=hc;exact⟨h1,fun cx hY r m L F a w vals hg hd hr=>h2 cx hY r m L F a w vals hg hd (h _ _ _ _ _ hr)⟩
def FT.less(ft:FT)(id:Nat):FT:=⟨ft.ks,cut ft.tb id⟩
theorem qhA:∀ l:List D,qbR (inj l)=true
 | []=>rfl
 | x::r=>by simp only[inj,qbR,yfree,qhA r];rfl
theorem qbT{l:List Nat}{K:List Nat->Prop}(l':List Nat)(h:l=l')(k:zW l' K):zW l K:=by subst h;exact k
theorem qfm:∀ l:List D,qT (inj l) = []
 | []=>rfl
 | x::r=>by simp only[inj,qT,zb,qfm r];rfl
theorem qfn:∀ a b:List V,qT (a++b)=qT a++qT b
 | [],b=>rfl
 | x::r,b=>by simp only[List.cons_append,qT,qfn r b,List.append_assoc]
theorem je(l:List (List D))(vs:List (List V)):qT (qV l++vs).flatten=qT vs.flatten:=by
 rw[List.flatten_append,qfn,zD,qfm];rfl
theorem qhB:∀ (l:List V) (i k:Nat) (v:V),l[k]?=some v->get (zP i l) (i+k)=some v
 | [],_,k,v,h=>by simp at h
 | a::r,i,0,v,h=>by
  simp at h;subst h;simp[zP,get]
 | a::r,i,k+1,v,h=>by
  have hne:Nat.beq i (i+(k+1))=false:=by
   rw[Bool.eq_false_iff];intro e;have:=Nat.eq_of_beq_eq_true e;omega
  simp only[zP,get,hne];rw[show i+(k+1)=i+1+k by omega];exact qhB r (i+1) k v (by simpa using h)
theorem RepVL.of{yv:Option Nat}{L:Loc}{F:Nat->Nat}{w:World}:∀ {l:List V} {vals:List Value},l.length=vals.length->(∀ (k:Nat) (v:V),l[k]?=some v -> ∃ x,vals[k]?=some x/\RepV yv L F w v x)->RepVL yv L F w l vals
 | [],[],_,_=>rfl
 | [],_::_,h,_=>by simp at h
 | _::_,[],h,_=>by simp at h
 | v::l,x::vals,h,hk=>by
  obtain⟨y,hy,hr⟩:=hk 0 v rfl;simp at hy;subst hy;exact⟨x,vals,rfl,hr,RepVL.of (by simpa using h) fun k u hu=>by simpa using hk (k+1) u (by simpa using hu)⟩
theorem qiw{σ:Type}{l l':List V}{h h':Heap}{s:σ}{Q:V->Heap->σ->Prop}(hw:Wk (⟨zP 0 l,h,s⟩:St σ) ⟨zP 0 l',h',s⟩)(hlen:l'.length=l.length)(hl:Nat.ble l.length 1000=true)(hr:RetA l' h' s Q):RetA l h s Q:=by
 obtain⟨hr⟩:=hr;refine⟨fun cx L F vals w hh hv=>?_⟩;have hvl:vals.length=l.length:=by simpa using hv.length
 have hl:=Nat.le_of_ble_eq_true hl;have hg:Good { cx with pρ:=L.ρ,pκ:=L.κ,base:=[] } none [] L F ⟨zP 0 l,h,s⟩ { tmps:=vals.toArray,defers:=[] } w:=by
  refine⟨⟨hh.hg,hh.csz,hh.fresh,hh.obj,hh.own,hh.inj⟩,fun t v ht=>?_,rfl,(fun b hb=>by cases hb),List.nodup_nil,(fun l hl=>by cases hl),fun _ _=>⟨rfl,rfl⟩,by simp;omega⟩;obtain⟨k,hk,hv'⟩:=qbO ht;rw[Nat.zero_add]at hk;subst hk;obtain⟨x,hx,hrx⟩:=hv.get t hv';exact⟨x,by simpa using hx,hrx⟩
 obtain⟨L1,F1,hg1,tr⟩:=hw _ _ _ _ _ _ _ hg;have hv1:RepVL cx.yv L1 F1 w l' vals:=by
  refine RepVL.of (by omega) fun k v hk=>?_;obtain⟨x,hx,hrx⟩:=hg1.env k v (by simpa using qhB l' 0 k v hk);exact⟨x,by simpa using hx,hrx⟩
 have hh1:HeapOk cx L1 F1 h' s w:=⟨hg1.heap.hg,hg1.heap.csz,hg1.heap.fresh,hg1.heap.obj,hg1.heap.own,hg1.heap.inj⟩;obtain⟨v,h2,L2,F2,q1,q2,q3,q4,q5⟩:=hr cx L1 F1 vals w hh1 hv1;refine⟨v,h2,L2,F2,q1,q2,q3,Tr.trans tr q4,fun i hi=>?_⟩;obtain⟨p1,p2⟩:=q5 i hi;obtain⟨p3,p4⟩:=hg1.pin i hi;exact⟨p1.trans p3,p2.trans p4⟩
theorem Good.frzPart2{σ:Type}{cx:Cx σ}{r:Option Nat}{m:List Nat}{L:Loc}{F:Nat->Nat}{st:St σ}{a:Act}{w:World}(hg:Good cx r m L F st a w){h:Heap}(hsub:qam h st.heap)(n:Nat) :
  ∃ F1,Good cx r m L F1 (qp st (qnt (ja h))) a w/\Tr F w F1 w /\ ∀ args vals,RepVL cx.yv L F w args vals->RepVL cx.yv L F1 w (qcs (qcc h n) args) vals:=by
 have hok:HeapOk cx L F h st.s w:=(hg.sub (e:=st.env) (h:=h) (fun _ _ h=>h) hsub).heap;have tr:=qaf hok;have hF1C:∀ b,cx.C st.s b->jY L F h w b=F b:=fun b hb=>qei hok hb;have hF1o:∀ id o,get st.heap id=some o->id∉ja h->Backed L id o->jY L F h w (L.ρ id)=F (L.ρ id):=by
  intro id o hi hn hb;refine jZ ?_;rintro ⟨j,p,hj,hbj,hij⟩;have:=hg.heap.inj j id p o (hsub j p hj) hi hbj hb hij;subst this;exact hn (qbQ hj)
 have hfr:=jB hok;have hobj:=qfj hok n;generalize jY L F h w=F1 at tr hF1C hF1o hfr hobj;rw[qaD];have hget:∀ i o,get (qkz st.heap (ja h)) i=some o->i∉ja h/\get st.heap i=some o:=by
  intro i o hi;rw[qej]at hi
  split at hi
  ·cases hi
  ·rename_i hn;exact⟨hn,hi⟩
 refine⟨F1,⟨⟨cx.stable hg.heap.hg tr hfr fun b hb=>⟨rfl,hF1C b hb⟩,hg.heap.csz,hfr,?_,?_,?_⟩,?_,hg.dfr,hg.mks,hg.mnd,hg.lk,hg.pin,hg.tsz⟩,tr,fun args vals hr=>RepVL.repl tr hobj args vals hr⟩
 ·intro i o hi
  exact RepO.mono tr i o (fun _ _=>⟨rfl,rfl⟩) ⟨rfl,rfl⟩ (fun _=>rfl) (hg.heap.obj i o (hget i o hi).2)
 ·intro i o hi hb
  obtain⟨hn,h0⟩:=hget i o hi;rw[hF1o i o h0 hn hb];exact hg.heap.own i o h0 hb
 ·intro i j o p hi hj hbi hbj he
  exact hg.heap.inj i j o p (hget i o hi).2 (hget j p hj).2 hbi hbj he
 ·intro t v ht
  obtain⟨x,hx,hr⟩:=hg.env t v ht;exact⟨x,hx,RepV.mono tr v x (fun _ _=>⟨rfl,rfl⟩) hr⟩
end Go.PX
namespace Go.PX
open Go.RowKit
section
variable {κ : Type} [DecidableEq κ] (kd : κ -> D)
variable {kd}
end
def qom(P:Program)(t:TypeId)(name:String)(g:FuncId):Bool:=
 match P.info? t,P.underlying t with
 | some i,some d=>(match d with
  | .pointer _=>false
  | _=>true)&&(match i.methods.find? (·.name ==name) with
  | some m=>m.path.isEmpty&&(match m.func with
   | some (g',false)=>g' ==g
   | _=>false)
  | none=>false)
 | _,_=>false
theorem meth_of{P:Program}{t:TypeId}{name:String}{g:FuncId}(h:qom P t name g=true)(v:Value)(w:World):(method (P.types.size+Made.depth) t v name).run P w = .ok (g,v) w:=by
 unfold qom at h
 split at h
 case h_2=>cases h
 rename_i i d hi hd;rw[Bool.and_eq_true]at h;obtain⟨hp,h⟩:=h
 split at h
 case h_2=>cases h
 rename_i m hm;rw[Bool.and_eq_true]at h;obtain⟨hpath,h⟩:=h
 split at h
 case h_2=>cases h
 rename_i g' hf;have:g'=g:=by simpa using h
 subst this;obtain⟨n,hn⟩:∃ n,P.types.size+Made.depth=n+1:=⟨P.types.size+99,rfl⟩;have hpl:m.path.toList = []:=by
  have:m.path = #[]:=by simpa using hpath
  rw[this]
 rw[hn,method];have h1:(typeInfo t).run P w = .ok i w:=by simp[typeInfo,hi]
 have hu:(underlying t).run P w = .ok d w:=run_underlying hd w;simp only[Sem.run_bind,h1,Result.andThen_ok,hm,hpl,follow,Sem.run_pure,hf]
 cases d<;>first | (simp at hp;done) | simp[receiverAt,hu,Sem.run_bind,Place.get]
theorem qnb{P:Program}{t:TypeId}{name:String}{K:FuncId->Prop}(g:FuncId)(h:qom P t name g=true)(hk:K g):InvA P t name K:=⟨g,meth_of h,hk⟩
end Go.PX
namespace Go.PX.PG
variable {α : Type}
structure Step(α:Type) where
 a:α
 b:α
 w:Int
def Pot(es:List (Step α))(t:α->Int):Prop:=∀ e∈es,t e.b<=t e.a+e.w
inductive Walk(es:List (Step α)):α->α->Nat->Int->Prop
 | nil (a:α):Walk es a a 0 0
 | snoc {a b:α} {n:Nat} {x:Int} (h:Walk es a b n x) (e:Step α) (he:e∈es) (hb:e.a=b):Walk es a e.b (n+1) (x+e.w)
theorem Walk.pot{es:List (Step α)}{t:α->Int}(ht:Pot es t){a b:α}{n:Nat}{x:Int}(h:Walk es a b n x):t b<=t a+x:=by
 induction h with
 | nil=>omega
 | snoc h e he hb ih=>
  have:=ht e he;rw[hb]at this;omega
theorem Walk.trans{es:List (Step α)}{a b:α}{n:Nat}{x:Int}(h:Walk es a b n x){c:α}{m:Nat}{y:Int}(k:Walk es b c m y):Walk es a c (n+m) (x+y):=by
 induction k with
 | nil=>simpa using h
 | snoc k e he hb ih=>
  have:=Walk.snoc ih e he hb;rw[Int.add_assoc]at this;exact this
theorem Walk.one{es:List (Step α)}{e:Step α}(he:e∈es):Walk es e.a e.b 1 e.w:=by
 have:=Walk.snoc (Walk.nil (es:=es) e.a) e he rfl;simpa using this
structure Dist(es:List (Step α))(a:α)(l:α->Option Int):Prop where
 walk:∀ v x,l v=some x -> ∃ n,Walk es a v n x
 fix:∀ e∈es,∀ x,l e.a=some x -> ∃ y,l e.b=some y/\y<=x+e.w
 root:∃ x,l a=some x/\x<=0
theorem Dist.le{es:List (Step α)}{a:α}{l:α->Option Int}(h:Dist es a l){b:α}{n:Nat}{x:Int}(k:Walk es a b n x):∃ y,l b=some y/\y<=x:=by
 induction k with
 | nil=>exact h.root
 | snoc k e he hb ih=>
  obtain⟨y,h1,h2⟩:=ih;rw[<- hb]at h1;obtain⟨z,h3,h4⟩:=h.fix e he y h1;exact⟨z,h3,by omega⟩
theorem Dist.root0{es:List (Step α)}{a:α}{l:α->Option Int}(h:Dist es a l):l a=some 0:=by
 obtain⟨x,h1,h2⟩:=h.root;obtain⟨n,hw⟩:=h.walk a x h1;obtain⟨y,h3,h4⟩:=h.le (hw.trans hw);rw[h1]at h3
 cases h3
 have:x=0:=by omega
 rw[h1,this]
theorem Dist.pot{es:List (Step α)}{a:α}{l:α->Option Int}(h:Dist es a l)(hall:∀ e∈es,∃ x,l e.a=some x):Pot es fun v=>(l v).getD 0:=by
 intro e he;obtain⟨x,hx⟩:=hall e he;obtain⟨y,hy,hle⟩:=h.fix e he x hx;simp only[hx,hy,Option.getD_some];exact hle
inductive WL(es:List (Step α)):List α->Int->Prop
 | one (a:α):WL es [a] 0
 | snoc {b:α} {l:List α} {x:Int} (h:WL es (b::l) x) (e:Step α) (he:e∈es) (hb:e.a=b):WL es (e.b::b::l) (x+e.w)
theorem WL.split{es:List (Step α)}:∀ (l1:List α) {c:α} {l2:List α} {x:Int},WL es (l1++c::l2) x -> ∃ x1 x2,WL es (c::l2) x1/\WL es (l1 ++ [c]) x2/\x=x1+x2
 | [],c,l2,x,h=>⟨x,0,h,.one c,by omega⟩
 | d::l1,c,l2,x,h=>by
  cases hl:l1++c::l2 with
  | nil=>simp at hl
  | cons b r=>
   rw[List.cons_append,hl]at h
   cases h with
   | snoc h e he hb=>
    rename_i y;rw[<- hl]at h;obtain⟨x1,x2,h1,h2,h3⟩:=WL.split l1 h;refine⟨x1,x2+e.w,h1,?_,by omega⟩
    cases l1 with
    | nil=>
     simp at hl;obtain⟨rfl,_⟩:=hl;exact WL.snoc (l:=[]) h2 e he hb
    | cons b' r'=>
     simp at hl;obtain⟨rfl,_⟩:=hl;exact WL.snoc (l:=r' ++ [c]) h2 e he hb
theorem WL.join{es:List (Step α)}:∀ (l1:List α) {c:α} {l2:List α} {x1 x2:Int},WL es (c::l2) x1->WL es (l1 ++ [c]) x2->WL es (l1++c::l2) (x1+x2)
 | [],c,l2,x1,x2,h1,h2=>by
  cases h2
  simpa using h1
 | d::l1,c,l2,x1,x2,h1,h2=>by
  cases hl:l1 ++ [c]with
  | nil=>simp at hl
  | cons b r=>
   rw[List.cons_append,hl]at h2
   cases h2 with
   | snoc h e he hb=>
    rename_i y;rw[<- hl]at h;have h3:=WL.join l1 h1 h
    cases l1 with
    | nil=>
     simp at hl;obtain⟨rfl,_⟩:=hl;have:=WL.snoc (l:=l2) h3 e he hb;rw[Int.add_assoc]at this;exact this
    | cons b' r'=>
     simp at hl;obtain⟨rfl,_⟩:=hl;have:=WL.snoc (l:=r'++c::l2) h3 e he hb;rw[Int.add_assoc]at this;exact this
theorem qgz[DecidableEq α]:∀ {l N:List α},N.length<l.length->(∀ x∈l,x∈N) -> ∃ l1 c l2 l3,l=l1++c::(l2++c::l3)
 | [],N,h,_=>absurd h (by simp)
 | a::l,N,h,hs=>by
  by_cases ha:a∈l
  ·obtain⟨l2,l3,rfl⟩:=List.append_of_mem ha
   exact⟨[],a,l2,l3,rfl⟩
  ·have h1:(N.erase a).length<l.length:=by
    have:=List.length_erase_of_mem (hs a (by simp));simp at h;have h0:0<N.length:=List.length_pos_of_mem (hs a (by simp));omega
   obtain⟨l1,c,l2,l3,rfl⟩:=qgz h1 (fun x hx=>(List.mem_erase_of_ne (by rintro rfl;exact ha hx)).2 (hs x (by simp[hx])));exact⟨a::l1,c,l2,l3,rfl⟩
theorem WL.short[DecidableEq α]{es:List (Step α)}{N:List α}(hpos:∀ c l x,WL es (c::(l ++ [c])) x->0<=x):∀ (k:Nat) {l:List α} {x:Int},l.length<=k->WL es l x->(∀ v∈l,v∈N) -> ∃ l' x',WL es l' x'/\l'.length<=N.length/\x'<=x/\l'.head?=l.head?/\l'.getLast?=l.getLast? /\ ∀ v∈l',v∈N
 | 0,[],x,_,h,_=>by cases h
 | k+1,l,x,hk,h,hN=>by
  by_cases hlen:l.length<=N.length
  ·exact⟨l,x,h,hlen,Int.le_refl _,rfl,rfl,hN⟩
  ·obtain⟨l1,c,l2,l3,rfl⟩:=qgz (by omega) hN
   obtain⟨x1,x2,h1,h2,h3⟩:=WL.split l1 h;obtain⟨y1,y2,h4,h5,h6⟩:=WL.split (c::l2) (by simpa using h1);have h7:=hpos c l2 y2 (by simpa using h5);have h8:=WL.join l1 h4 h2;obtain⟨l',x',a1,a2,a3,a4,a5,a6⟩:=WL.short hpos k (l:=l1++c::l3) (x:=y1+x2) (by simp at hk ⊢;omega) h8 (fun v hv=>hN v (by
    rcases List.mem_append.1 hv with hv | hv
    ·simp[hv]
    ·rcases List.mem_cons.1 hv with rfl | hv
     ·simp
     ·simp[hv]))
   refine⟨l',x',a1,a2,by omega,?_,?_,a6⟩
   ·rw[a4]
    cases l1<;>simp
   ·rw[a5]
    simp[List.getLast?_append,List.getLast?_cons]
end Go.PX.PG
namespace Go.PX.PG
variable {α : Type} [DecidableEq α]
def upd(l:α->Option Int)(b:α)(x:Int):α->Option Int:=fun v=>if v=b then some x else l v
def relax(l:α->Option Int)(e:Step α):α->Option Int:=
 match l e.a with
 | none=>l
 | some n=>match l e.b with
  | none=>upd l e.b (n+e.w)
  | some m=>if n+e.w<m then upd l e.b (n+e.w) else l
def round(es:List (Step α))(l:α->Option Int):α->Option Int:=es.foldl relax l
def rounds(es:List (Step α)):Nat->(α->Option Int)->α->Option Int
 | 0,l=>l
 | k+1,l=>rounds es k (round es l)
def Less(l' l:α->Option Int):Prop:=∀ v x,l v=some x -> ∃ y,l' v=some y/\y<=x
theorem Less.refl(l:α->Option Int):Less l l:=fun v x h=>⟨x,h,Int.le_refl _⟩
theorem Less.trans{a b c:α->Option Int}(h:Less a b)(k:Less b c):Less a c:=fun v x hx=>by
 obtain⟨y,h1,h2⟩:=k v x hx;obtain⟨z,h3,h4⟩:=h v y h1;exact⟨z,h3,by omega⟩
theorem qhC(l:α->Option Int)(e:Step α):Less (relax l e) l:=by
 unfold relax
 split
 ·exact Less.refl l
 ·split
  ·intro v x hx
   rename_i h;unfold upd
   split
   ·rename_i h2;subst h2;rw[hx]at h;cases h
   ·exact⟨x,hx,Int.le_refl _⟩
  ·split
   ·intro v x hx
    rename_i m hm hlt;unfold upd
    split
    ·rename_i h2;subst h2
     rw[hm]at hx;cases hx;exact⟨_,rfl,by omega⟩
    ·exact⟨x,hx,Int.le_refl _⟩
   ·exact Less.refl l
theorem relax_le(l:α->Option Int)(e:Step α){x:Int}(h:l e.a=some x):∃ y,relax l e e.b=some y/\y<=x+e.w:=by
 unfold relax;rw[h];simp only
 cases hm:l e.b with
 | none=>exact⟨_,by simp only[upd,if_pos],Int.le_refl _⟩
 | some m=>
  simp only
  split
  ·exact⟨_,by simp only[upd,if_pos],Int.le_refl _⟩
  ·exact⟨m,hm,by omega⟩
theorem qgA:∀ (es:List (Step α)) (l:α->Option Int),Less (es.foldl relax l) l
 | [],l=>Less.refl l
 | e::es,l=>(qgA es (relax l e)).trans (qhC l e)
theorem qnc:∀ (es:List (Step α)) (l:α->Option Int) (e:Step α),e∈es -> ∀ x,l e.a=some x -> ∃ y,es.foldl relax l e.b=some y/\y<=x+e.w
 | d::es,l,e,he,x,hx=>by
  rw[List.foldl_cons]
  rcases List.mem_cons.1 he with rfl | he
  ·obtain⟨y,h1,h2⟩:=relax_le l e hx
   obtain⟨z,h3,h4⟩:=qgA es (relax l e) _ _ h1;exact⟨z,h3,by omega⟩
  ·obtain⟨y,h1,h2⟩:=qhC l d _ _ hx
   obtain⟨z,h3,h4⟩:=qnc es (relax l d) e he y h1;exact⟨z,h3,by omega⟩
def Walks(es:List (Step α))(a:α)(l:α->Option Int):Prop:=∀ v x,l v=some x -> ∃ n,Walk es a v n x
theorem relax_walks{es:List (Step α)}{a:α}{l:α->Option Int}(h:Walks es a l){e:Step α}(he:e∈es):Walks es a (relax l e):=by
 have key:∀ n,l e.a=some n->Walks es a (upd l e.b (n+e.w)):=by
  intro n hn v x hx;unfold upd at hx
  split at hx
  ·rename_i h2;subst h2
   cases hx
   obtain⟨k,hw⟩:=h e.a n hn;exact⟨_,Walk.snoc hw e he rfl⟩
  ·exact h v x hx
 unfold relax
 split
 ·exact h
 ·rename_i n hn
  split
  ·exact key n hn
  ·split
   ·exact key n hn
   ·exact h
theorem qhD{es:List (Step α)}{a:α}:∀ (ds:List (Step α)) {l:α->Option Int},(∀ e∈ds,e∈es)->Walks es a l->Walks es a (ds.foldl relax l)
 | [],l,_,h=>h
 | d::ds,l,hd,h=>qhD ds (fun e he=>hd e (by simp[he])) (relax_walks h (hd d (by simp)))
theorem qfo{es:List (Step α)}{a:α}:∀ (k:Nat) {l:α->Option Int},Walks es a l->Walks es a (rounds es k l)
 | 0,l,h=>h
 | k+1,l,h=>qfo k (qhD es (fun e he=>he) h)
theorem qgB{es:List (Step α)}:∀ (k:Nat) (l:α->Option Int),Less (rounds es k l) l
 | 0,l=>Less.refl l
 | k+1,l=>(qgB k (round es l)).trans (qgA es l)
theorem qgC(es:List (Step α)):∀ (k:Nat) (l:α->Option Int),rounds es (k+1) l=round es (rounds es k l)
 | 0,l=>rfl
 | k+1,l=>by rw[rounds,qgC es k (round es l)];rfl
theorem rounds_le{es:List (Step α)}{a:α}{l:α->Option Int}(h0:∃ x,l a=some x/\x<=0){v:α}{n:Nat}{x:Int}(hw:Walk es a v n x):∀ k,n<=k -> ∃ y,rounds es k l v=some y/\y<=x:=by
 induction hw with
 | nil=>
  intro k _;obtain⟨x,h1,h2⟩:=h0;obtain⟨y,h3,h4⟩:=qgB (es:=es) k l a x h1;exact⟨y,h3,by omega⟩
 | snoc h e he hb ih=>
  intro k hk;obtain⟨k,rfl⟩:∃ j,k=j+1:=⟨k-1,by omega⟩;obtain⟨y,h1,h2⟩:=ih k (by omega);rw[qgC];rw[<- hb]at h1;obtain⟨z,h3,h4⟩:=qnc es _ e he y h1;exact⟨z,h3,by omega⟩
def NoNeg(es:List (Step α)):Prop:=∀ c n x,Walk es c c n x->0<=x
theorem pot_noNeg{es:List (Step α)}{t:α->Int}(h:Pot es t):NoNeg es:=fun c n x hw=>by
 have:=hw.pot h;omega
theorem WL.walk{es:List (Step α)}:∀ {l:List α} {b a:α} {x:Int},WL es (b::l) x->(b::l).getLast?=some a->Walk es a b l.length x:=by
 intro l b a x h;generalize hl:b::l=m at h
 induction h generalizing b l with
 | one c=>
  intro ha
  cases hl
  simp at ha;subst ha;exact .nil _
 | snoc h e he hb ih=>
  rename_i b' l' x';intro ha
  cases hl
  have h1:=ih rfl (by simpa[List.getLast?_cons]using ha);exact Walk.snoc h1 e he hb
theorem Walk.wl{es:List (Step α)}{N:List α}(hN:∀ e∈es,e.a∈N/\e.b∈N){a b:α}(ha:a∈N){n:Nat}{x:Int}(h:Walk es a b n x):∃ l,l.length=n/\WL es (b::l) x/\(b::l).getLast?=some a /\ ∀ v∈b::l,v∈N:=by
 induction h with
 | nil=>exact⟨[],rfl,.one _,rfl,by simpa using ha⟩
 | snoc h e he hb ih=>
  rename_i b' n' x';obtain⟨l,h1,h2,h3,h4⟩:=ih;refine⟨b'::l,by simp[h1],WL.snoc h2 e he hb,by simpa[List.getLast?_cons]using h3,fun v hv=>?_⟩
  rcases List.mem_cons.1 hv with rfl | hv
  ·exact(hN e he).2
  ·exact h4 v hv
theorem Walk.short{es:List (Step α)}{N:List α}(hN:∀ e∈es,e.a∈N/\e.b∈N)(hno:NoNeg es){a b:α}(ha:a∈N){n:Nat}{x:Int}(h:Walk es a b n x):∃ m y,m<N.length/\y<=x/\Walk es a b m y:=by
 obtain⟨l,h1,h2,h3,h4⟩:=h.wl hN ha;have hpos:∀ c l x,WL es (c::(l ++ [c])) x->0<=x:=fun c l x h=>hno c _ x (h.walk (by simp[List.getLast?_cons,List.getLast?_append]));obtain⟨l',y,a1,a2,a3,a4,a5,a6⟩:=WL.short hpos (b::l).length (Nat.le_refl _) h2 h4
 cases l' with
 | nil=>cases a1
 | cons b' l'=>
  simp at a4;subst a4;refine⟨l'.length,y,by simp at a2;omega,a3,a1.walk (by rw[a5];exact h3)⟩
theorem rounds_dist{es:List (Step α)}{N:List α}(hN:∀ e∈es,e.a∈N/\e.b∈N)(hno:NoNeg es){a:α}(ha:a∈N){k:Nat}(hk:N.length<=k+1):Dist es a (rounds es k fun v=>if v=a then some 0 else none):=by
 have h0:∃ x,(fun v=>if v=a then some (0:Int) else none) a=some x/\x<=0:=⟨0,by simp,Int.le_refl _⟩;have hw:Walks es a (rounds es k fun v=>if v=a then some 0 else none):=qfo k (by
  intro v x hx;simp only at hx
  split at hx
  ·rename_i h;subst h;cases hx;exact⟨0,.nil _⟩
  ·cases hx)
 refine⟨hw,fun e he x hx=>?_,?_⟩
 ·obtain⟨n,h1⟩:=hw e.a x hx
  obtain⟨m,y,h2,h3,h4⟩:=(Walk.snoc h1 e he rfl).short hN hno ha;have h7:=rounds_le (es:=es) (a:=a) (l:=fun v=>if v=a then some 0 else none) h0 h4 k;obtain⟨z,h5,h6⟩:=h7 (by omega);exact⟨z,h5,by omega⟩
 ·have h7:=rounds_le (es:=es) (a:=a) (l:=fun v=>if v=a then some 0 else none) h0 (.nil a) k
  exact h7 (by omega)
end Go.PX.PG
namespace Go.PX.PG
def viaF(never x y z:Int):Int:=if x<never/\y<never then min z (x+y) else z
abbrev Tb:=Nat->Nat->Int
def updT(t:Tb)(i j:Nat)(x:Int):Tb:=fun a b=>if a=i/\b=j then x else t a b
def stepT(never:Int)(t:Tb)(i k j:Nat):Tb:=updT t i j (viaF never (t i k) (t k j) (t i j))
def rowT(never:Int)(n:Nat)(t:Tb)(i k:Nat):Tb:=(List.range n).foldl (fun t j=>stepT never t i k j) t
end Go.PX.PG
namespace Go.PX.PG
end Go.PX.PG
namespace Go.PX
open Go.Proofs
structure PEnt where
 shown:Int
 kind:Int
 word:ByteArray
 number:Int
def PEnt.cells(x:PEnt):List D:=[i64 x.shown,i64 x.kind,.str x.word,i64 x.number]
def PEnt.d(x:PEnt):D:=.agg x.cells
structure PBook where
 name:ByteArray
 off:Span
 set:Span
 ents:List PEnt
def qdM(l:List PEnt):D:=.vs (l.map PEnt.cells)
def PBook.cells(b:PBook):List D:=.str b.name::(b.off.cells++b.set.cells ++ [qdM b.ents])
structure PLog where
 near:Int
 books:List PBook
def qG(l:List PBook):D:=.vs (l.map PBook.cells)
def PLog.cells(l:PLog):List D:=[i64 l.near,qG l.books]
def PLog.d(l:PLog):D:=.agg l.cells
structure PAt where
 book:Int
 entry:Int
 deriving DecidableEq
def PAt.cells(x:PAt):List D:=[i64 x.book,i64 x.entry]
def PAt.d(x:PAt):D:=.agg x.cells
structure Per where
 book:Int
 n:Int
 deriving DecidableEq
def Per.cells(x:Per):List D:=[i64 x.book,i64 x.n]
def Per.d(x:Per):D:=.agg x.cells
abbrev Per.right:Per:=⟨-1,0⟩
abbrev zl:=PG.Step Per
def qoT(s:zl):List D:=s.a.cells++s.b.cells ++ [i64 s.w]
section
variable {κ ν : Type} [DecidableEq κ]
def zj:List (κ×ν)->κ->Option ν
 | [],_=>none
 | (u,x)::r,t=>if t=u then some x else zj r t
def jr:List (κ×ν)->κ->ν->List (κ×ν)
 | [],t,v=>[(t,v)]
 | (u,x)::r,t,v=>if t=u then (t,v)::r else (u,x)::jr r t v
end
structure LkE where
 steps:List zl
 many:Int
 first:List (Int×PAt)
 now:Per
 of:List Per
 mine:List (Int×Int)
def jh(wider:Int)(p:Per)(s:Span):List zl:=[⟨.right,p,s.hi+wider⟩,⟨p,.right,wider-s.lo⟩]
def qjB(pers:List (List Per))(x:PAt):Per:=(((pers[x.book.toNat]?).getD [])[x.entry.toNat]?).getD .right
def qeU(l:PLog)(x:PAt):PEnt:=((((l.books[x.book.toNat]?).map (·.ents)).getD [])[x.entry.toNat]?).getD ⟨0,0,.empty,0⟩
def qmm(l:PLog)(wider:Int)(conf:List Int)(i:Nat)(b:PBook)(pers:List (List Per))(k:Nat)(y:PEnt)(s:LkE):LkE:=
 let of:=s.of ++ [s.now]
 let st:=if k=0 then s.steps else s.steps ++ [⟨(of[k-1]?).getD .right,s.now,y.shown-((b.ents[k-1]?).getD ⟨0,0,.empty,0⟩).shown⟩]
 if y.kind=2 then
  let now:Per:=⟨s.now.book,s.now.n+1⟩
  { s with of:=of,now:=now,steps:=st++jh wider now b.set,many:=s.many+1 }
 else if y.kind=3 then
  let n:=(zj s.mine y.number).getD 0+1
  let mine:=jr s.mine y.number n
  if n>1\/y.number∈conf then { s with of:=of,steps:=st,mine:=mine }
  else match zj s.first y.number with
   | none=>{ s with of:=of,steps:=st,mine:=mine,first:=jr s.first y.number ⟨i,k⟩ }
   | some at'=>
    let more:=y.shown-(qeU l at').shown
    let p:=qjB pers at'
    { s with of:=of,mine:=mine,steps:=st ++ [⟨p,s.now,more⟩,⟨s.now,p,-more⟩] }
 else { s with of:=of,steps:=st }
def qdN(l:PLog)(wider:Int)(conf:List Int)(i:Nat)(b:PBook)(pers:List (List Per)):Nat->List PEnt->LkE->LkE
 | _,[],s=>s
 | k,y::r,s=>qdN l wider conf i b pers (k+1) r (qmm l wider conf i b pers k y s)
structure LkS where
 steps:List zl
 many:Int
 first:List (Int×PAt)
 pers:List (List Per)
def qgD(l:PLog)(wider:Int)(conf:List Int)(i:Nat)(b:PBook)(s:LkS):LkS:=
 let e:=qdN l wider conf i b s.pers 0 b.ents ⟨s.steps++jh wider ⟨i,0⟩ b.off,s.many+1,s.first,⟨i,0⟩,[],[]⟩
 ⟨e.steps,e.many,e.first,s.pers ++ [e.of]⟩
def qdO(l:PLog)(wider:Int)(conf:List Int):Nat->List PBook->LkS->LkS
 | _,[],s=>s
 | i,b::r,s=>qdO l wider conf (i+1) r (qgD l wider conf i b s)
def qZ(l:PLog)(wider:Int)(conf:List Int):LkS:=qdO l wider conf 0 l.books ⟨[],0,[],[]⟩
abbrev PM:=List (Per×Int)
def qeV(x:PM×Bool)(s:zl):PM×Bool:=match zj x.1 s.a with
 | none=>x
 | some n=>match zj x.1 s.b with
  | none=>(jr x.1 s.b (n+s.w),true)
  | some m=>if n+s.w<m then (jr x.1 s.b (n+s.w),true) else x
def qgE(steps:List zl)(m:PM):PM×Bool:=steps.foldl qeV (m,false)
def qbo(steps:List zl):Nat->PM->PM
 | 0,m=>m
 | k+1,m=>if (qgE steps m).2 then qbo steps k (qgE steps m).1 else (qgE steps m).1
def qdl(x:LkS)(p:Per):PM:=qbo x.steps (x.many+2).toNat [(p,0)]
def atM(m:PM)(p:Per):Int:=(zj m p).getD 0
def qlw(x:LkS)(m:PM):Bool:=x.steps.all fun s=>decide (atM m s.b<=atM m s.a+s.w)
end Go.PX
namespace Go.PX
open Go.Proofs
section
variable {κ ν : Type} [DecidableEq κ]
theorem zu(m:List (κ×ν))(t u:κ)(y:ν):zj (jr m t y) u=if u=t then some y else zj m u:=by
 induction m with
 | nil=>rfl
 | cons p r ih=>
  obtain⟨w,x⟩:=p;rw[jr]
  split
  ·rename_i h
   subst h;rw[zj,zj]
   by_cases hu:u=t
   ·rw[if_pos hu,if_pos hu]
   ·rw[if_neg hu,if_neg hu,if_neg hu]
  ·rename_i h
   rw[zj,zj,ih]
   by_cases hu:u=w
   ·subst hu
    rw[if_pos rfl,if_pos rfl,if_neg (fun e=>h e.symm)]
   ·rw[if_neg hu,if_neg hu]
end
theorem try_relax(x:PM×Bool)(s:zl):(fun p=>zj (qeV x s).1 p)=PG.relax (fun p=>zj x.1 p) s:=by
 unfold qeV PG.relax
 cases h1:zj x.1 s.a with
 | none=>
  simp only[h1]
 | some n=>
  simp only[h1]
  cases h2:zj x.1 s.b with
  | none=>
   simp only[h2]
   funext p
   exact zu ..
  | some m=>
   simp only[h2]
   split
   ·funext p
    exact zu ..
   ·rfl
theorem try_same{x:PM×Bool}{s:zl}(h:(qeV x s).2=false):qeV x s=x:=by
 unfold qeV at h ⊢
 split
 ·rfl
 ·rename_i n h1
  rw[h1]at h;simp only at h
  split
  ·rename_i h2
   rw[h2]at h;cases h
  ·rename_i m h2
   rw[h2]at h;simp only at h
   split
   ·rename_i h3
    rw[if_pos h3]at h;cases h
   ·rfl
theorem try_mono{x:PM×Bool}{s:zl}(h:x.2=true):(qeV x s).2=true:=by
 unfold qeV
 split
 ·exact h
 ·split
  ·rfl
  ·split
   ·rfl
   ·exact h
theorem qjC:∀ (l:List zl) {x:PM×Bool},x.2=true->(l.foldl qeV x).2=true
 | [],x,h=>h
 | s::r,x,h=>qjC r (try_mono h)
theorem qjD:∀ (l:List zl) {x:PM×Bool},(l.foldl qeV x).2=false->l.foldl qeV x=x
 | [],x,_=>rfl
 | s::r,x,h=>by
  have h1:(qeV x s).2=false:=by
   cases hb:(qeV x s).2 with
   | false=>rfl
   | true=>rw[List.foldl_cons,qjC r hb]at h;cases h
  rw[List.foldl_cons,try_same h1]at h ⊢;exact qjD r h
theorem qhE:∀ (l:List zl) (x:PM×Bool),(fun p=>zj (l.foldl qeV x).1 p)=l.foldl PG.relax (fun p=>zj x.1 p)
 | [],x=>rfl
 | s::r,x=>by
  rw[List.foldl_cons,List.foldl_cons,<- try_relax];exact qhE r _
theorem qhF{es:List zl}{l:Per->Option Int}(h:PG.round es l=l):∀ k,PG.rounds es k l=l
 | 0=>rfl
 | k+1=>by rw[PG.rounds,h];exact qhF h k
theorem qgF(es:List zl):∀ (k:Nat) (m:PM),(fun p=>zj (qbo es k m) p)=PG.rounds es k fun p=>zj m p
 | 0,m=>rfl
 | k+1,m=>by
  rw[qbo,PG.rounds];have h1:(fun p=>zj (qgE es m).1 p)=PG.round es fun p=>zj m p:=qhE es (m,false)
  split
  ·rw[qgF es k,h1]
  ·rename_i h
   have h2:qgE es m=(m,false):=qjD es (x:=(m,false)) (by
    cases hb:(es.foldl qeV (m,false)).2 with
    | false=>rfl
    | true=>exact absurd hb h)
   rw[h2]at h1 ⊢;have h3:PG.round es (fun p=>zj m p)=fun p=>zj m p:=h1.symm;rw[h3,qhF h3]
structure StarOk(x:LkS)(N:List Per):Prop where
 ends:∀ e∈x.steps,e.a∈N/\e.b∈N
 right:Per.right∈N
 len:(N.length:Int)<=x.many+1
 to':∀ p∈N,p ≠ .right -> ∃ e∈x.steps,e.a = .right/\e.b=p
 back:∀ p∈N,p ≠ .right -> ∃ e∈x.steps,e.a=p/\e.b = .right
theorem StarOk.reach{x:LkS}{N:List Per}(h:StarOk x N){p q:Per}(hp:p∈N)(hq:q∈N):∃ n w,n<=2/\PG.Walk x.steps p q n w:=by
 have h1:∃ n w,n<=1/\PG.Walk x.steps p .right n w:=by
  by_cases hpr:p = .right
  ·subst hpr;exact⟨0,0,by omega,.nil _⟩
  ·obtain⟨e,he,rfl,hb⟩:=h.back p hp hpr
   exact⟨1,e.w,by omega,hb▸PG.Walk.one he⟩
 have h2:∃ n w,n<=1/\PG.Walk x.steps .right q n w:=by
  by_cases hqr:q = .right
  ·subst hqr;exact⟨0,0,by omega,.nil _⟩
  ·obtain⟨e,he,ha,rfl⟩:=h.to' q hq hqr
   exact⟨1,e.w,by omega,ha▸PG.Walk.one he⟩
 obtain⟨n,w,hn,hw⟩:=h1;obtain⟨m,v,hm,hv⟩:=h2;exact⟨n+m,w+v,by omega,hw.trans hv⟩
theorem StarOk.known{x:LkS}{N:List Per}(h:StarOk x N){p q:Per}(hp:p∈N)(hq:q∈N):∃ v,zj (qdl x p) q=some v:=by
 obtain⟨n,w,hn,hw⟩:=h.reach hp hq;have hm:2<=(x.many+2).toNat:=by have:=h.len;have:=List.length_pos_of_mem h.right;omega
 obtain⟨y,hy,_⟩:=PG.rounds_le (es:=x.steps) (a:=p) (l:=fun q=>zj [(p,(0:Int))] q) ⟨0,by simp[zj],Int.le_refl _⟩ hw (x.many+2).toNat (by omega);have e:=congrFun (qgF x.steps (x.many+2).toNat [(p,0)]) q;exact⟨y,by unfold qdl;rw[e];exact hy⟩
theorem start_eq(p:Per):(fun q=>zj [(p,(0:Int))] q)=fun v=>if v=p then some 0 else none:=by
 funext q
 rw[zj,zj]
theorem StarOk.dist{x:LkS}{N:List Per}(h:StarOk x N)(hno:PG.NoNeg x.steps){p:Per}(hp:p∈N):PG.Dist x.steps p fun q=>zj (qdl x p) q:=by
 unfold qdl;rw[qgF,start_eq];exact PG.rounds_dist h.ends hno hp (by have:=h.len;omega)
theorem StarOk.fit{x:LkS}{N:List Per}(h:StarOk x N){p:Per}(hp:p∈N):qlw x (qdl x p)=true↔PG.NoNeg x.steps:=by
 unfold qlw;rw[List.all_eq_true];constructor
 ·intro hf
  refine PG.pot_noNeg (t:=fun q=>atM (qdl x p) q) fun e he=>?_;exact of_decide_eq_true (hf e he)
 ·intro hno e he
  have hd:=h.dist hno hp;obtain⟨v,hv⟩:=h.known hp (h.ends e he).1;obtain⟨y,hy,hle⟩:=hd.fix e he v hv;refine decide_eq_true ?_;unfold atM;rw[hv,hy];exact hle
end Go.PX
namespace Go.PX
open Go.Proofs
def jm(l:List PEnt):Nat:=(l.filter fun y=>decide (y.kind=2)).length
theorem qaZ(y:PEnt)(r:List PEnt):jm (y::r)=(if y.kind=2 then 1 else 0)+jm r:=by
 unfold jm;rw[List.filter_cons]
 by_cases h:y.kind=2
 ·rw[if_pos (by simpa using h),if_pos h,List.length_cons];omega
 ·rw[if_neg (by simpa using h),if_neg h];omega
def qjE(i:Nat)(b:PBook):List Per:=(List.range (jm b.ents+1)).map fun(n:Nat)=>⟨i,n⟩
def qbp:Nat->List PBook->List Per
 | _,[]=>[]
 | i,b::r=>qjE i b++qbp (i+1) r
def qaE(l:PLog):List Per:=.right::qbp 0 l.books
def Starred(steps:List zl)(p:Per):Prop:=(∃ e∈steps,e.a = .right/\e.b=p) /\ ∃ e∈steps,e.a=p/\e.b = .right
theorem Starred.mono{st st':List zl}(h:∀ e∈st,e∈st'){p:Per}:Starred st p->Starred st' p
 | ⟨⟨e,he,ha⟩,f,hf,hb⟩=>⟨⟨e,h e he,ha⟩,f,h f hf,hb⟩
theorem qfp(wider:Int)(p:Per)(s:Span):Starred (jh wider p s) p:=
 ⟨⟨_,List.mem_cons_self ..,rfl,rfl⟩,⟨p,.right,wider-s.lo⟩,by simp[jh],rfl,rfl⟩
structure EntOk(N:List Per)(i:Nat)(c:Nat)(many:Int)(base:List zl)(s:LkE):Prop where
 now:s.now=⟨i,c⟩
 many:s.many=many+c
 ends:∀ e∈s.steps,e.a∈N/\e.b∈N
 of:∀ p∈s.of,p∈N
 sub:∀ e∈base,e∈s.steps
 star:∀ n:Nat,n<=c->Starred s.steps ⟨i,n⟩
theorem qlx{α:Type}{N:List α}{d:α}(hd:d∈N){l:List α}(hl:∀ p∈l,p∈N)(k:Nat):(l[k]?).getD d∈N:=by
 cases h:l[k]? with
 | none=>exact hd
 | some p=>exact hl p (List.mem_of_getElem? h)
theorem qjF{N:List Per}(hr:Per.right∈N){pers:List (List Per)}(hp:∀ l∈pers,∀ p∈l,p∈N)(x:PAt):qjB pers x∈N:=by
 unfold qjB;refine qlx hr (fun p hpm=>?_) _
 cases h:pers[x.book.toNat]? with
 | none=>rw[h]at hpm;cases hpm
 | some l=>rw[h]at hpm;exact hp l (List.mem_of_getElem? h) p hpm
theorem entS_ok{N:List Per}(hr:Per.right∈N){l:PLog}{wider:Int}{conf:List Int}{i:Nat}{b:PBook}{pers:List (List Per)}(hp:∀ l∈pers,∀ p∈l,p∈N){c:Nat}{many:Int}{base:List zl}{k:Nat}{y:PEnt}{s:LkE}(h:EntOk N i c many base s)(hc:(⟨i,c⟩:Per)∈N)(hc1:y.kind=2->(⟨i,(c+1:Nat)⟩:Per)∈N) :
  EntOk N i (c+if y.kind=2 then 1 else 0) many base (qmm l wider conf i b pers k y s):=by
 have hnow:s.now∈N:=by rw[h.now];exact hc
 have hof:∀ p∈s.of ++ [s.now],p∈N:=fun p hpm=>by
  rcases List.mem_append.1 hpm with hpm | hpm
  ·exact h.of p hpm
  ·rw[List.mem_singleton]at hpm;rw[hpm];exact hnow
 generalize hst:(if k=0 then s.steps else s.steps ++ [(⟨((s.of ++ [s.now])[k-1]?).getD .right,s.now,y.shown-((b.ents[k-1]?).getD ⟨0,0,.empty,0⟩).shown⟩:zl)])=st;have hsub:∀ e∈s.steps,e∈st:=fun e he=>by
  rw[<- hst]
  split
  ·exact he
  ·simp[he]
 have hend:∀ e∈st,e.a∈N/\e.b∈N:=fun e he=>by
  rw[<- hst]at he
  split at he
  ·exact h.ends e he
  ·rcases List.mem_append.1 he with he | he
   ·exact h.ends e he
   ·rw[List.mem_singleton]at he
    rw[he];exact⟨qlx hr hof _,hnow⟩
 unfold qmm;simp only[hst]
 by_cases h2:y.kind=2
 ·rw[if_pos h2,if_pos h2]
  have hn1:=hc1 h2;have hnw:(⟨s.now.book,s.now.n+1⟩:Per)=⟨i,(c+1:Nat)⟩:=by rw[h.now];simp
  refine⟨hnw,by simp only;rw[h.many];omega,fun e he=>?_,hof,fun e he=>List.mem_append_left _ (hsub e (h.sub e he)),fun n hn=>?_⟩
  ·rcases List.mem_append.1 he with he | he
   ·exact hend e he
   ·unfold jh at he
    rw[hnw]at he;simp only[List.mem_cons,List.not_mem_nil,or_false]at he
    rcases he with rfl | rfl
    ·exact⟨hr,hn1⟩
    ·exact⟨hn1,hr⟩
  ·by_cases hnc:n<=c
   ·exact(h.star n hnc).mono fun e he=>List.mem_append_left _ (hsub e he)
   ·have:n=c+1:=by omega
    subst this;refine Starred.mono (fun e he=>List.mem_append_right _ he) ?_;rw[hnw];exact qfp ..
 ·rw[if_neg h2,if_neg h2,Nat.add_zero]
  have keep:∀ (st':List zl) (mine:List (Int×Int)) (first:List (Int×PAt)),(∀ e∈st,e∈st')->(∀ e∈st',e.a∈N/\e.b∈N)->EntOk N i c many base { s with of:=s.of ++ [s.now],steps:=st',mine:=mine,first:=first }:=fun st' mine first h1 h3=>
   ⟨h.now,h.many,h3,hof,fun e he=>h1 e (hsub e (h.sub e he)),fun n hn=>(h.star n hn).mono fun e he=>h1 e (hsub e he)⟩
  by_cases h3:y.kind=3
  ·rw[if_pos h3]
   split
   ·exact keep st _ _ (fun e he=>he) hend
   ·split
    ·exact keep st _ _ (fun e he=>he) hend
    ·refine keep _ _ _ (fun e he=>List.mem_append_left _ he) fun e he=>?_
     rcases List.mem_append.1 he with he | he
     ·exact hend e he
     ·simp only[List.mem_cons,List.not_mem_nil,or_false]at he
      rcases he with rfl | rfl
      ·exact⟨qjF hr hp _,hnow⟩
      ·exact⟨hnow,qjF hr hp _⟩
  ·rw[if_neg h3]
   exact keep st _ _ (fun e he=>he) hend
theorem qly{N:List Per}(hr:Per.right∈N){l:PLog}{wider:Int}{conf:List Int}{i:Nat}{b:PBook}{pers:List (List Per)}(hp:∀ l∈pers,∀ p∈l,p∈N){many:Int}{base:List zl}:∀ (r:List PEnt) {c k:Nat} {s:LkE},EntOk N i c many base s->(∀ n:Nat,n<=c+jm r->(⟨i,n⟩:Per)∈N) ->
  EntOk N i (c+jm r) many base (qdN l wider conf i b pers k r s)
 | [],c,k,s,h,_=>h
 | y::r,c,k,s,h,hN=>by
  rw[qaZ]at hN ⊢;rw[qdN,<- Nat.add_assoc];refine qly hr hp r (entS_ok hr hp h (hN c (by omega)) fun h2=>hN (c+1) (by rw[if_pos h2];omega)) fun n hn=>hN n (by omega)
structure LookOk(N:List Per)(done:List Per)(s:LkS):Prop where
 ends:∀ e∈s.steps,e.a∈N/\e.b∈N
 pers:∀ l∈s.pers,∀ p∈l,p∈N
 many:s.many=done.length
 star:∀ p∈done,Starred s.steps p
theorem bookS_ok{N done:List Per}(hr:Per.right∈N){l:PLog}{wider:Int}{conf:List Int}{i:Nat}{b:PBook}{s:LkS}(h:LookOk N done s)(hN:∀ p∈qjE i b,p∈N):LookOk N (done++qjE i b) (qgD l wider conf i b s):=by
 have hin:∀ n:Nat,n<=jm b.ents->(⟨i,n⟩:Per)∈N:=fun n hn=>hN _ (List.mem_map.2 ⟨n,List.mem_range.2 (by omega),rfl⟩);have h0:EntOk N i 0 (s.many+1) s.steps ⟨s.steps++jh wider ⟨i,0⟩ b.off,s.many+1,s.first,⟨i,0⟩,[],[]⟩:=by
  refine⟨rfl,by simp,fun e he=>?_,fun p hp=>by simp at hp,fun e he=>List.mem_append_left _ he,fun n hn=>?_⟩
  ·rcases List.mem_append.1 he with he | he
   ·exact h.ends e he
   ·unfold jh at he
    simp only[List.mem_cons,List.not_mem_nil,or_false]at he;have:=hin 0 (Nat.zero_le _)
    rcases he with rfl | rfl
    ·exact⟨hr,this⟩
    ·exact⟨this,hr⟩
  ·have:n=0:=by omega
   subst this;exact(qfp wider ⟨i,(0:Nat)⟩ b.off).mono fun e he=>List.mem_append_right _ he
 have h1:=qly (l:=l) (wider:=wider) (conf:=conf) (b:=b) hr h.pers b.ents (k:=0) h0 (fun n hn=>hin n (by omega));rw[Nat.zero_add]at h1;unfold qgD;refine⟨h1.ends,fun l' hl=>?_,?_,fun p hp=>?_⟩
 ·rcases List.mem_append.1 hl with hl | hl
  ·exact h.pers l' hl
  ·rw[List.mem_singleton]at hl;rw[hl];exact h1.of
 ·show(qdN _ _ _ _ _ _ _ _ _).many=_
  rw[h1.many,h.many,List.length_append];unfold qjE;rw[List.length_map,List.length_range];omega
 ·rcases List.mem_append.1 hp with hp | hp
  ·exact(h.star p hp).mono h1.sub
  ·obtain⟨n,hn,rfl⟩:=List.mem_map.1 hp
   exact h1.star n (by have:=List.mem_range.1 hn;omega)
theorem qix{N:List Per}(hr:Per.right∈N){l:PLog}{wider:Int}{conf:List Int}:∀ (bs:List PBook) {i:Nat} {done:List Per} {s:LkS},LookOk N done s->(∀ p∈qbp i bs,p∈N)->LookOk N (done++qbp i bs) (qdO l wider conf i bs s)
 | [],i,done,s,h,_=>by rw[qbp,List.append_nil];exact h
 | b::r,i,done,s,h,hN=>by
  rw[qbp,qdO,<- List.append_assoc];rw[qbp]at hN;exact qix hr r (bookS_ok hr h fun p hp=>hN p (List.mem_append_left _ hp)) fun p hp=>hN p (List.mem_append_right _ hp)
theorem qjG(l:PLog)(wider:Int)(conf:List Int):StarOk (qZ l wider conf) (qaE l):=by
 have h:=qix (N:=qaE l) (l:=l) (wider:=wider) (conf:=conf) (by simp[qaE]) l.books (i:=0) (done:=[]) (s:=⟨[],0,[],[]⟩) ⟨fun e he=>(by cases he),fun x hx=>(by cases hx),rfl,fun p hp=>(by cases hp)⟩ (fun p hp=>List.mem_cons_of_mem _ hp);rw[List.nil_append]at h;have hs:∀ p∈qaE l,p ≠ .right->p∈qbp 0 l.books:=fun p hp hne=>by
  rcases List.mem_cons.1 hp with rfl | hp
  ·exact absurd rfl hne
  ·exact hp
 refine⟨h.ends,by simp[qaE],?_,fun p hp hne=>(h.star p (hs p hp hne)).1,fun p hp hne=>(h.star p (hs p hp hne)).2⟩;show(((qaE l).length:Nat):Int)<=(qdO l wider conf 0 l.books ⟨[],0,[],[]⟩).many+1;rw[h.many];simp[qaE]
end Go.PX
namespace Go.PX
open Go.Proofs
def qN(b:PBook)(k:Nat):Nat:=jm (b.ents.take k)
def zH:List PEnt->Int->Nat->Option Nat
 | [],_,_=>none
 | y::r,n,k=>if y.kind=3/\y.number=n then some k else zH r n (k+1)
theorem jD:∀ {r:List PEnt} {n:Int} {k m:Nat},zH r n k=some m -> ∃ y,k<=m/\r[m-k]?=some y/\y.kind=3/\y.number=n /\ ∀ j z,j<m-k->r[j]?=some z->¬ (z.kind=3/\z.number=n)
 | [],n,k,m,h=>by cases h
 | y::r,n,k,m,h=>by
  rw[zH]at h
  split at h
  ·rename_i h1
   cases h
   exact⟨y,Nat.le_refl _,by simp,h1.1,h1.2,fun j z hj=>by omega⟩
  ·rename_i h1
   obtain⟨z,hk,hz,h2,h3,h4⟩:=jD h;refine⟨z,by omega,?_,h2,h3,fun j w hj hw=>?_⟩
   ·rw[show m-k=(m-(k+1))+1 by omega,List.getElem?_cons_succ];exact hz
   ·cases j with
    | zero=>
     rw[List.getElem?_cons_zero]at hw
     cases hw;exact h1
    | succ j=>
     rw[List.getElem?_cons_succ]at hw;exact h4 j w (by omega) hw
theorem qes:∀ {r:List PEnt} {n:Int} {k j:Nat} {y:PEnt},r[j]?=some y->y.kind=3->y.number=n->(∀ i z,i<j->r[i]?=some z->¬ (z.kind=3/\z.number=n))->zH r n k=some (k+j)
 | [],n,k,j,y,h,_,_,_=>by simp at h
 | z::r,n,k,0,y,h,h1,h2,_=>by
  rw[List.getElem?_cons_zero]at h
  cases h
  rw[zH,if_pos ⟨h1,h2⟩];rfl
 | z::r,n,k,j+1,y,h,h1,h2,h3=>by
  rw[List.getElem?_cons_succ]at h;rw[zH,if_neg (h3 0 z (by omega) rfl),qes (k:=k+1) h h1 h2 fun i w hi hw=>h3 (i+1) w (by omega) (by rw[List.getElem?_cons_succ];exact hw)]
  congr 1;omega
theorem qjH{r:List PEnt}{n:Int}{j:Nat}{y:PEnt}(h:r[j]?=some y)(h1:y.kind=3)(h2:y.number=n):∃ m,m<=j/\zH r n 0=some m:=by
 induction j using Nat.strongRecOn generalizing y with
 | _ j ih=>
  by_cases hn:∃ i z,i<j/\r[i]?=some z/\z.kind=3/\z.number=n
  ·obtain⟨i,z,hi,hz,h3,h4⟩:=hn
   obtain⟨m,hm,he⟩:=ih i hi hz h3 h4;exact⟨m,by omega,he⟩
  ·have:=qes (k:=0) h h1 h2 fun i z hi hz h3=>hn ⟨i,z,hi,hz,h3.1,h3.2⟩
   exact⟨j,Nat.le_refl _,by rw[this,Nat.zero_add]⟩
structure At(l:PLog)(i k:Nat)(b:PBook)(x:PEnt):Prop where
 book:l.books[i]?=some b
 ent:b.ents[k]?=some x
def qcV(i j:Nat)(b c:PBook)(m n:Nat)(x y:PEnt):zl:=⟨⟨i,qN b m⟩,⟨j,qN c n⟩,y.shown-x.shown⟩
structure Rep(l:PLog)(conf:List Int)(i j m n:Nat)(b c:PBook)(x y:PEnt)(num:Int):Prop where
 ha:At l i m b x
 hb:At l j n c y
 fa:zH b.ents num 0=some m
 fb:zH c.ents num 0=some n
 no:num∉conf
inductive Just(l:PLog)(wider:Int)(conf:List Int):zl->Prop
 | off (i:Nat) (b:PBook) (hb:l.books[i]?=some b) (e:zl) (he:e∈jh wider ⟨i,0⟩ b.off):Just l wider conf e
 | set (i:Nat) (b:PBook) (hb:l.books[i]?=some b) (n:Nat) (h1:1<=n) (h2:n<=jm b.ents) (e:zl) (he:e∈jh wider ⟨i,n⟩ b.set):Just l wider conf e
 | ord (i k:Nat) (b:PBook) (x y:PEnt) (hx:At l i k b x) (hy:At l i (k+1) b y):Just l wider conf (qcV i i b b k (k+1) x y)
 | rep (i j m n:Nat) (b c:PBook) (x y:PEnt) (num:Int) (h:Rep l conf i j m n b c x y num):Just l wider conf (qcV i j b c m n x y)
def js(i:Nat)(b:PBook):List Per:=(List.range b.ents.length).map fun(m:Nat)=>⟨i,qN b m⟩
theorem perOf_succ{b:PBook}{k:Nat}{y:PEnt}(h:b.ents[k]?=some y):qN b (k+1)=qN b k+if y.kind=2 then 1 else 0:=by
 unfold qN jm;have hl:=(List.getElem?_eq_some_iff.1 h).1;rw[List.take_succ,h];show(List.filter _ (b.ents.take k ++ [y])).length=_;rw[List.filter_append,List.length_append,List.filter_cons]
 by_cases h2:y.kind=2
 ·rw[if_pos (by simpa using h2),if_pos h2];simp
 ·rw[if_neg (by simpa using h2),if_neg h2];simp
theorem qdm(b:PBook)(k:Nat):qN b k<=jm b.ents:=by
 unfold qN jm;exact(List.Sublist.filter _ (List.take_sublist k b.ents)).length_le
theorem perOf_all(b:PBook):qN b b.ents.length=jm b.ents:=by unfold qN;rw[List.take_length]
def Both(l:PLog)(st:List zl)(r:PAt)(j n:Nat)(c:PBook)(y:PEnt):Prop:=
 ∃ (i m:Nat) (b:PBook) (x:PEnt),r=⟨i,m⟩/\At l i m b x/\qcV i j b c m n x y∈st/\qcV j i c b n m y x∈st
theorem Both.mono{l:PLog}{st st':List zl}(h:∀ e∈st,e∈st'){r:PAt}{j n:Nat}{c:PBook}{y:PEnt}:Both l st r j n c y->Both l st' r j n c y
 | ⟨i,m,b,x,h1,h2,h3,h4⟩=>⟨i,m,b,x,h1,h2,h _ h3,h _ h4⟩
def Ahead(i k j m:Nat):Prop:=j<i\/(j=i/\m<k)
structure EInv(l:PLog)(wider:Int)(conf:List Int)(i k:Nat)(b:PBook)(pers:List (List Per))(s:LkE):Prop where
 now:s.now=⟨i,qN b k⟩
 of:s.of=(List.range k).map fun(m:Nat)=>⟨i,qN b m⟩
 mine:∀ num,(0<=(zj s.mine num).getD 0)/\(1<=(zj s.mine num).getD 0 ↔ ∃ m,m<k/\zH b.ents num 0=some m)
 fst:∀ num r,zj s.first num=some r -> ∃ (j m:Nat) (c:PBook) (x:PEnt),r=⟨j,m⟩/\At l j m c x/\zH c.ents num 0=some m/\num∉conf/\Ahead i k j m
 got:∀ (j m:Nat) (c:PBook) (y:PEnt) num,At l j m c y->zH c.ents num 0=some m->num∉conf->Ahead i k j m -> ∃ r,zj s.first num=some r/\(r=⟨j,m⟩\/Both l s.steps r j m c y)
 sub:∀ e∈s.steps,Just l wider conf e
 off:∀ (j:Nat) c,l.books[j]?=some c->j<=i -> ∀ e∈jh wider ⟨j,0⟩ c.off,e∈s.steps
 set:∀ (j:Nat) c n,l.books[j]?=some c->1<=n->(j<i/\n<=jm c.ents\/j=i/\n<=qN b k) -> ∀ e∈jh wider ⟨j,(n:Nat)⟩ c.set,e∈s.steps
 ord:∀ (j m:Nat) c x y,At l j m c x->At l j (m+1) c y->Ahead i k j (m+1)->qcV j j c c m (m+1) x y∈s.steps
structure LInv(l:PLog)(wider:Int)(conf:List Int)(i:Nat)(s:LkS):Prop where
 pers:s.pers.length=i /\ ∀ (j:Nat) c,l.books[j]?=some c->j<i->s.pers[j]?=some (js j c)
 fst:∀ num r,zj s.first num=some r -> ∃ (j m:Nat) (c:PBook) (x:PEnt),r=⟨j,m⟩/\At l j m c x/\zH c.ents num 0=some m/\num∉conf/\j<i
 got:∀ (j m:Nat) (c:PBook) (y:PEnt) num,At l j m c y->zH c.ents num 0=some m->num∉conf->j<i -> ∃ r,zj s.first num=some r/\(r=⟨j,m⟩\/Both l s.steps r j m c y)
 sub:∀ e∈s.steps,Just l wider conf e
 off:∀ (j:Nat) c,l.books[j]?=some c->j<i -> ∀ e∈jh wider ⟨j,0⟩ c.off,e∈s.steps
 set:∀ (j:Nat) c n,l.books[j]?=some c->1<=n->j<i->n<=jm c.ents -> ∀ e∈jh wider ⟨j,(n:Nat)⟩ c.set,e∈s.steps
 ord:∀ (j m:Nat) c x y,At l j m c x->At l j (m+1) c y->j<i->qcV j j c c m (m+1) x y∈s.steps
theorem jk{j:Nat}{c:PBook}{m:Nat}(h:m<c.ents.length):(js j c)[m]?=some ⟨j,qN c m⟩:=by
 unfold js;rw[List.getElem?_map,List.getElem?_range h];rfl
theorem jf{l:PLog}{j m:Nat}{c:PBook}{x:PEnt}(h:At l j m c x):qeU l ⟨j,m⟩=x:=by
 unfold qeU;simp only[Int.toNat_natCast,h.book,Option.map_some,Option.getD_some,h.ent]
theorem qaj{l:PLog}{pers:List (List Per)}{j m:Nat}{c:PBook}{x:PEnt}(h:At l j m c x)(hp:pers[j]?=some (js j c)):qjB pers ⟨j,m⟩=⟨j,qN c m⟩:=by
 unfold qjB;simp only[Int.toNat_natCast,hp,Option.getD_some,jk (List.getElem?_eq_some_iff.1 h.ent).1]
end Go.PX
namespace Go.PX
open Go.Proofs
theorem Ahead.succ{i k j m:Nat}(h:Ahead i k j m):Ahead i (k+1) j m:=h.imp id fun⟨a,b⟩=>⟨a,by omega⟩
theorem qba{i k j m:Nat}(h:Ahead i (k+1) j m):Ahead i k j m\/(j=i/\m=k):=by
 unfold Ahead at *;omega
structure StOk(l:PLog)(wider:Int)(conf:List Int)(i k:Nat)(b:PBook)(s:LkE)(st:List zl):Prop where
 keep:∀ e∈s.steps,e∈st
 sub:∀ e∈st,Just l wider conf e
 ord:∀ (j m:Nat) c x y,At l j m c x->At l j (m+1) c y->Ahead i (k+1) j (m+1)->qcV j j c c m (m+1) x y∈st
theorem qon{l:PLog}{wider:Int}{conf:List Int}{i k:Nat}{b:PBook}{pers:List (List Per)}{s:LkE}{y:PEnt}(hb:l.books[i]?=some b)(hy:b.ents[k]?=some y)(h:EInv l wider conf i k b pers s) :
  StOk l wider conf i k b s (if k=0 then s.steps else s.steps ++ [⟨((s.of ++ [s.now])[k-1]?).getD .right,s.now,y.shown-((b.ents[k-1]?).getD ⟨0,0,.empty,0⟩).shown⟩]):=by
 cases k with
 | zero=>
  rw[if_pos rfl];refine⟨fun e he=>he,h.sub,fun j m c x z hx hz ha=>h.ord j m c x z hx hz ?_⟩
  rcases qba ha with ha | ⟨_,ha⟩
  ·exact ha
  ·omega
 | succ k=>
  rw[if_neg (by omega),Nat.add_sub_cancel];have hkl:=(List.getElem?_eq_some_iff.1 hy).1;obtain⟨x,hx⟩:∃ x,b.ents[k]?=some x:=⟨_,List.getElem?_eq_getElem (by omega)⟩;have hof:((s.of ++ [s.now])[k]?).getD .right=⟨i,qN b k⟩:=by
   rw[h.of,List.getElem?_append_left (by simp),List.getElem?_map,List.getElem?_range (by omega)];rfl
  have e:(⟨((s.of ++ [s.now])[k]?).getD .right,s.now,y.shown-((b.ents[k]?).getD ⟨0,0,.empty,0⟩).shown⟩:zl)=qcV i i b b k (k+1) x y:=by
   rw[hof,h.now,hx];rfl
  rw[e];refine⟨fun e he=>List.mem_append_left _ he,fun e he=>?_,fun j m c x' z hx' hz ha=>?_⟩
  ·rcases List.mem_append.1 he with he | he
   ·exact h.sub e he
   ·rw[List.mem_singleton]at he
    rw[he];exact .ord i k b x y ⟨hb,hx⟩ ⟨hb,hy⟩
  ·rcases qba ha with ha | ⟨h1,h2⟩
   ·exact List.mem_append_left _ (h.ord j m c x' z hx' hz ha)
   ·subst h1
    have hm:m=k:=by omega
    subst hm;have hcb:c=b:=Option.some.inj (hx'.book.symm.trans hb);subst hcb;rw[Option.some.inj (hx'.ent.symm.trans hx),Option.some.inj (hz.ent.symm.trans hy)];exact List.mem_append_right _ (List.mem_singleton.2 rfl)
theorem of_succ{i k:Nat}{b:PBook}{s:LkE}(ho:s.of=(List.range k).map fun(m:Nat)=>(⟨i,qN b m⟩:Per))(hn:s.now=⟨i,qN b k⟩):s.of ++ [s.now]=(List.range (k+1)).map fun(m:Nat)=>(⟨i,qN b m⟩:Per):=by
 rw[List.range_succ,List.map_append,ho,hn];rfl
theorem qbU{b:PBook}{k:Nat}{y:PEnt}(hy:b.ents[k]?=some y){num:Int}(h:zH b.ents num 0=some k):y.kind=3/\y.number=num:=by
 obtain⟨z,_,hz,h1,h2,_⟩:=jD h;rw[Nat.sub_zero,hy]at hz
 cases hz;exact⟨h1,h2⟩
theorem qkC{l:PLog}{wider:Int}{conf:List Int}{i k:Nat}{b:PBook}{pers:List (List Per)}{s:LkE}{y:PEnt}(hp:∀ (j:Nat) c,l.books[j]?=some c->j<i->pers[j]?=some (js j c))(hb:l.books[i]?=some b)(hy:b.ents[k]?=some y)(h:EInv l wider conf i k b pers s) :
  EInv l wider conf i (k+1) b pers (qmm l wider conf i b pers k y s):=by
 have hs:=qon hb hy h;have hof:=of_succ h.of h.now;have hps:=perOf_succ hy;generalize hst:(if k=0 then s.steps else s.steps ++ [(⟨((s.of ++ [s.now])[k-1]?).getD .right,s.now,y.shown-((b.ents[k-1]?).getD ⟨0,0,.empty,0⟩).shown⟩:zl)])=st at hs;unfold qmm;simp only[hst];have nomine:y.kind≠3 -> ∀ num,(0<=(zj s.mine num).getD 0)/\(1<=(zj s.mine num).getD 0 ↔ ∃ m,m<k+1/\zH b.ents num 0=some m):=fun h3 num=>by
  obtain⟨h1,h2⟩:=h.mine num;refine⟨h1,h2.trans ⟨fun⟨m,hm,he⟩=>⟨m,by omega,he⟩,fun⟨m,hm,he⟩=>⟨m,?_,he⟩⟩⟩
  rcases Nat.lt_or_ge m k with hlt | hge
  ·exact hlt
  ·have:m=k:=by omega
   subst this;exact absurd (qbU hy he).1 h3
 have nogot:y.kind≠3 -> ∀ (st':List zl),(∀ e∈st,e∈st') -> ∀ (j m:Nat) (c:PBook) (z:PEnt) num,At l j m c z->zH c.ents num 0=some m->num∉conf->Ahead i (k+1) j m -> ∃ r,zj s.first num=some r/\(r=⟨j,m⟩\/Both l st' r j m c z):=fun h3 st' hst j m c z num hz hf hc ha=>by
  rcases qba ha with ha | ⟨rfl,rfl⟩
  ·obtain⟨r,h1,h2⟩:=h.got j m c z num hz hf hc ha
   exact⟨r,h1,h2.imp id (Both.mono fun e he=>hst e (hs.keep e he))⟩
  ·have hcb:c=b:=Option.some.inj (hz.book.symm.trans hb)
   subst hcb;exact absurd (qbU hy hf).1 h3
 have fstk:∀ num r,zj s.first num=some r -> ∃ (j m:Nat) (c:PBook) (x:PEnt),r=⟨j,m⟩/\At l j m c x/\zH c.ents num 0=some m/\num∉conf/\Ahead i (k+1) j m:=fun num r hr=>by
  obtain⟨j,m,c,x,h1,h2,h3,h4,h5⟩:=h.fst num r hr;exact⟨j,m,c,x,h1,h2,h3,h4,h5.succ⟩
 by_cases h2:y.kind=2
 ·rw[if_pos h2]
  rw[if_pos h2]at hps;have h3:y.kind≠3:=by omega
  have hnw:(⟨s.now.book,s.now.n+1⟩:Per)=⟨i,(qN b (k+1):Nat)⟩:=by rw[h.now,hps];simp
  refine⟨hnw,hof,nomine h3,fstk,nogot h3 _ fun e he=>List.mem_append_left _ he,fun e he=>?_,fun j c hc hj e he=>List.mem_append_left _ (hs.keep e (h.off j c hc hj e he)),fun j c n hc hn hjn e he=>?_,fun j m c x z hx hz ha=>List.mem_append_left _ (hs.ord j m c x z hx hz ha)⟩
  ·rcases List.mem_append.1 he with he | he
   ·exact hs.sub e he
   ·rw[hnw]at he
    exact .set i b hb (qN b (k+1)) (by omega) (qdm b _) e he
  ·rcases hjn with hjn | ⟨rfl,hjn⟩
   ·exact List.mem_append_left _ (hs.keep e (h.set j c n hc hn (.inl hjn) e he))
   ·rcases Nat.lt_or_ge (qN b k) n with hlt | hge
    ·have:n=qN b (k+1):=by omega
     subst this;have hcb:c=b:=Option.some.inj (hc.symm.trans hb);subst hcb;rw[hnw];exact List.mem_append_right _ he
    ·exact List.mem_append_left _ (hs.keep e (h.set j c n hc hn (.inr ⟨rfl,hge⟩) e he))
 ·rw[if_neg h2]
  rw[if_neg h2,Nat.add_zero]at hps;have hnow:s.now=⟨i,qN b (k+1)⟩:=by rw[hps];exact h.now
  have setk:∀ (st':List zl),(∀ e∈st,e∈st') -> ∀ (j:Nat) c n,l.books[j]?=some c->1<=n->(j<i/\n<=jm c.ents\/j=i/\n<=qN b (k+1)) -> ∀ e∈jh wider ⟨j,(n:Nat)⟩ c.set,e∈st':=fun st' hst j c n hc hn hjn e he=>by
   rw[hps]at hjn;exact hst e (hs.keep e (h.set j c n hc hn hjn e he))
  have offk:∀ (st':List zl),(∀ e∈st,e∈st') -> ∀ (j:Nat) c,l.books[j]?=some c->j<=i -> ∀ e∈jh wider ⟨j,0⟩ c.off,e∈st':=fun st' hst j c hc hj e he=>hst e (hs.keep e (h.off j c hc hj e he))
  by_cases h3:y.kind=3
  ·rw[if_pos h3]
   obtain⟨hm0,hm1⟩:=h.mine y.number;obtain⟨m0,hm0k,hm0f⟩:=qjH hy h3 rfl;have minek:∀ num,(0<=(zj (jr s.mine y.number ((zj s.mine y.number).getD 0+1)) num).getD 0)/\(1<=(zj (jr s.mine y.number ((zj s.mine y.number).getD 0+1)) num).getD 0 ↔ ∃ m,m<k+1/\zH b.ents num 0=some m):=fun num=>by
    rw[zu]
    by_cases hn:num=y.number
    ·rw[if_pos hn,Option.getD_some]
     subst hn;exact⟨by omega,fun _=>⟨m0,by omega,hm0f⟩,fun _=>by omega⟩
    ·rw[if_neg hn]
     obtain⟨h4,h5⟩:=h.mine num;refine⟨h4,h5.trans ⟨fun⟨m,hm,he⟩=>⟨m,by omega,he⟩,fun⟨m,hm,he⟩=>⟨m,?_,he⟩⟩⟩
     rcases Nat.lt_or_ge m k with hlt | hge
     ·exact hlt
     ·have:m=k:=by omega
      subst this;exact absurd (qbU hy he).2.symm hn
   by_cases hc:(zj s.mine y.number).getD 0+1>1\/y.number∈conf
   ·rw[if_pos hc]
    refine⟨hnow,hof,minek,fstk,fun j m c z num hz hf hcn ha=>?_,hs.sub,offk _ fun e he=>he,setk _ fun e he=>he,hs.ord⟩
    rcases qba ha with ha | ⟨rfl,rfl⟩
    ·obtain⟨r,h5,h6⟩:=h.got j m c z num hz hf hcn ha
     exact⟨r,h5,h6.imp id (Both.mono hs.keep)⟩
    ·have hcb:c=b:=Option.some.inj (hz.book.symm.trans hb)
     subst hcb;have hnum:=(qbU hy hf).2;subst hnum
     rcases hc with hc | hc
     ·obtain⟨m',h5,h6⟩:=hm1.1 (by omega)
      rw[hf]at h6;have:=Option.some.inj h6;omega
     ·exact absurd hc hcn
   ·rw[if_neg hc]
    have hc1:¬ 1<=(zj s.mine y.number).getD 0:=fun h=>hc (.inl (by omega));have hc2:y.number∉conf:=fun h=>hc (.inr h);have hfk:zH b.ents y.number 0=some k:=by
     rcases Nat.lt_or_ge m0 k with hlt | hge
     ·exact absurd (hm1.2 ⟨m0,hlt,hm0f⟩) hc1
     ·rw[hm0f];congr 1;omega
    cases hfr:zj s.first y.number with
    | none=>
     simp only;refine⟨hnow,hof,minek,fun num r hr=>?_,fun j m c z num hz hf hcn ha=>?_,hs.sub,offk _ fun e he=>he,setk _ fun e he=>he,hs.ord⟩
     ·simp only at hr
      rw[zu]at hr
      split at hr
      ·rename_i hn
       cases hr
       subst hn;exact⟨i,k,b,y,rfl,⟨hb,hy⟩,hfk,hc2,.inr ⟨rfl,Nat.lt_succ_self k⟩⟩
      ·exact fstk num r hr
     ·simp only
      rw[zu]
      rcases qba ha with ha | ⟨rfl,rfl⟩
      ·obtain⟨r,h5,h6⟩:=h.got j m c z num hz hf hcn ha
       have hn:num≠y.number:=by rintro rfl;rw[hfr]at h5;cases h5
       rw[if_neg hn];exact⟨r,h5,h6.imp id (Both.mono hs.keep)⟩
      ·have hcb:c=b:=Option.some.inj (hz.book.symm.trans hb)
       subst hcb;rw[if_pos (qbU hy hf).2.symm];exact⟨_,rfl,.inl rfl⟩
    | some r0=>
     simp only;obtain⟨j0,n0,c0,x0,rfl,hx0,hf0,_,ha0⟩:=h.fst y.number r0 hfr;have hj0:j0<i:=by
      rcases ha0 with ha0 | ⟨rfl,ha0⟩
      ·exact ha0
      ·have hcb:c0=b:=Option.some.inj (hx0.book.symm.trans hb)
       subst hcb;rw[hfk]at hf0;have:=Option.some.inj hf0;omega
     have e1:(⟨qjB pers ⟨j0,n0⟩,s.now,y.shown-(qeU l ⟨j0,n0⟩).shown⟩:zl)=qcV j0 i c0 b n0 k x0 y:=by
      rw[qaj hx0 (hp j0 c0 hx0.book hj0),jf hx0,h.now];rfl
     have e2:(⟨s.now,qjB pers ⟨j0,n0⟩,-(y.shown-(qeU l ⟨j0,n0⟩).shown)⟩:zl)=qcV i j0 b c0 k n0 y x0:=by
      rw[qaj hx0 (hp j0 c0 hx0.book hj0),jf hx0,h.now,Int.neg_sub];rfl
     rw[e1,e2];refine⟨hnow,hof,minek,fstk,fun j m c z num hz hf hcn ha=>?_,fun e he=>?_,offk _ fun e he=>List.mem_append_left _ he,setk _ fun e he=>List.mem_append_left _ he,fun j m c x z hx hz ha=>List.mem_append_left _ (hs.ord j m c x z hx hz ha)⟩
     ·rcases qba ha with ha | ⟨rfl,rfl⟩
      ·obtain⟨r,h5,h6⟩:=h.got j m c z num hz hf hcn ha
       exact⟨r,h5,h6.imp id (Both.mono fun e he=>List.mem_append_left _ (hs.keep e he))⟩
      ·have hcb:c=b:=Option.some.inj (hz.book.symm.trans hb)
       subst hcb;have hnum:=(qbU hy hf).2;subst hnum;have hzy:z=y:=Option.some.inj (hz.ent.symm.trans hy);subst hzy;exact⟨_,hfr,.inr ⟨j0,n0,c0,x0,rfl,hx0,by simp,by simp⟩⟩
     ·rcases List.mem_append.1 he with he | he
      ·exact hs.sub e he
      ·simp only[List.mem_cons,List.not_mem_nil,or_false]at he
       rcases he with rfl | rfl
       ·exact .rep j0 i n0 k c0 b x0 y y.number ⟨hx0,⟨hb,hy⟩,hf0,hfk,hc2⟩
       ·exact .rep i j0 k n0 b c0 y x0 y.number ⟨⟨hb,hy⟩,hx0,hfk,hf0,hc2⟩
  ·rw[if_neg h3]
   exact⟨hnow,hof,nomine h3,fstk,nogot h3 _ fun e he=>he,hs.sub,offk _ fun e he=>he,setk _ fun e he=>he,hs.ord⟩
end Go.PX
namespace Go.PX
open Go.Proofs
theorem qlz{l:PLog}{wider:Int}{conf:List Int}{i:Nat}{b:PBook}{pers:List (List Per)}(hp:∀ (j:Nat) c,l.books[j]?=some c->j<i->pers[j]?=some (js j c))(hb:l.books[i]?=some b):∀ (r:List PEnt) {k:Nat} {s:LkE},(∀ j,r[j]?=b.ents[k+j]?)->EInv l wider conf i k b pers s->EInv l wider conf i (k+r.length) b pers (qdN l wider conf i b pers k r s)
 | [],k,s,_,h=>h
 | y::r,k,s,he,h=>by
  rw[qdN,List.length_cons,show k+(r.length+1)=k+1+r.length by omega];refine qlz hp hb r (fun j=>?_) (qkC hp hb (by have:=he 0;rw[List.getElem?_cons_zero]at this;exact this.symm) h);have:=he (j+1);rw[List.getElem?_cons_succ]at this;rw[this];congr 1;omega
theorem qhG(b:PBook):qN b 0=0:=rfl
theorem qiy{l:PLog}{wider:Int}{conf:List Int}{i:Nat}{b:PBook}{s:LkS}(hb:l.books[i]?=some b)(h:LInv l wider conf i s):LInv l wider conf (i+1) (qgD l wider conf i b s):=by
 have h0:EInv l wider conf i 0 b s.pers ⟨s.steps++jh wider ⟨i,0⟩ b.off,s.many+1,s.first,⟨i,0⟩,[],[]⟩:=by
  refine⟨rfl,rfl,fun num=>⟨Int.le_refl 0,fun h=>absurd h (by show ¬ ((1:Int)<=0);decide),fun⟨m,hm,_⟩=>absurd hm (Nat.not_lt_zero m)⟩,fun num r hr=>?_,fun j m c y num hy hf hc ha=>?_,fun e he=>?_,fun j c hc hj e he=>?_,fun j c n hc hn hjn e he=>?_,fun j m c x z hx hz ha=>?_⟩
  ·obtain⟨j,m,c,x,h1,h2,h3,h4,h5⟩:=h.fst num r hr
   exact⟨j,m,c,x,h1,h2,h3,h4,.inl h5⟩
  ·rcases ha with ha | ⟨_,ha⟩
   ·obtain⟨r,h1,h2⟩:=h.got j m c y num hy hf hc ha
    exact⟨r,h1,h2.imp id (Both.mono fun e he=>List.mem_append_left _ he)⟩
   ·exact absurd ha (Nat.not_lt_zero m)
  ·rcases List.mem_append.1 he with he | he
   ·exact h.sub e he
   ·exact .off i b hb e he
  ·rcases Nat.lt_or_ge j i with hlt | hge
   ·exact List.mem_append_left _ (h.off j c hc hlt e he)
   ·have:j=i:=by omega
    subst this;have hcb:c=b:=Option.some.inj (hc.symm.trans hb);subst hcb;exact List.mem_append_right _ he
  ·rcases hjn with⟨hj,hn2⟩ | ⟨_,hn2⟩
   ·exact List.mem_append_left _ (h.set j c n hc hn hj hn2 e he)
   ·rw[qhG]at hn2;omega
  ·rcases ha with ha | ⟨_,ha⟩
   ·exact List.mem_append_left _ (h.ord j m c x z hx hz ha)
   ·omega
 have h1:=qlz h.pers.2 hb b.ents (fun j=>by rw[Nat.zero_add]) h0;rw[Nat.zero_add]at h1;unfold qgD;have ah:∀ (j m:Nat) (c:PBook) (y:PEnt),At l j m c y->j<i+1->Ahead i b.ents.length j m:=fun j m c y hy hj=>by
  rcases Nat.lt_or_ge j i with hlt | hge
  ·exact .inl hlt
  ·have:j=i:=by omega
   subst this;have hcb:c=b:=Option.some.inj (hy.book.symm.trans hb);subst hcb;exact .inr ⟨rfl,(List.getElem?_eq_some_iff.1 hy.ent).1⟩
 refine⟨⟨by simp only[List.length_append,List.length_singleton];rw[h.pers.1],fun j c hc hj=>?_⟩,fun num r hr=>?_,fun j m c y num hy hf hc hj=>h1.got j m c y num hy hf hc (ah j m c y hy hj),h1.sub,fun j c hc hj e he=>h1.off j c hc (by omega) e he,fun j c n hc hn hj hn2 e he=>?_,fun j m c x z hx hz hj=>h1.ord j m c x z hx hz (ah j (m+1) c z hz hj)⟩
 ·simp only
  rcases Nat.lt_or_ge j i with hlt | hge
  ·rw[List.getElem?_append_left (by rw[h.pers.1];exact hlt)]
   exact h.pers.2 j c hc hlt
  ·have:j=i:=by omega
   subst this;have hcb:c=b:=Option.some.inj (hc.symm.trans hb);subst hcb;rw[List.getElem?_append_right (by rw[h.pers.1];exact Nat.le_refl _),h.pers.1,Nat.sub_self,h1.of];rfl
 ·obtain⟨j,m,c,x,h2,h3,h4,h5,h6⟩:=h1.fst num r hr
  refine⟨j,m,c,x,h2,h3,h4,h5,?_⟩
  rcases h6 with h6 | ⟨h6,_⟩<;>omega
 ·refine h1.set j c n hc hn ?_ e he
  rcases Nat.lt_or_ge j i with hlt | hge
  ·exact .inl ⟨hlt,hn2⟩
  ·have:j=i:=by omega
   subst this;have hcb:c=b:=Option.some.inj (hc.symm.trans hb);subst hcb;exact .inr ⟨rfl,by rw[perOf_all];exact hn2⟩
theorem qlA{l:PLog}{wider:Int}{conf:List Int}:∀ (bs:List PBook) {i:Nat} {s:LkS},(∀ j,bs[j]?=l.books[i+j]?)->LInv l wider conf i s->LInv l wider conf (i+bs.length) (qdO l wider conf i bs s)
 | [],i,s,_,h=>h
 | b::r,i,s,he,h=>by
  rw[qdO,List.length_cons,show i+(r.length+1)=i+1+r.length by omega];refine qlA r (fun j=>?_) (qiy (by have:=he 0;rw[List.getElem?_cons_zero]at this;exact this.symm) h);have:=he (j+1);rw[List.getElem?_cons_succ]at this;rw[this];congr 1;omega
theorem qet(l:PLog)(wider:Int)(conf:List Int):LInv l wider conf l.books.length (qZ l wider conf):=by
 have:=qlA (l:=l) (wider:=wider) (conf:=conf) l.books (i:=0) (s:=⟨[],0,[],[]⟩) (fun j=>by rw[Nat.zero_add]) ⟨⟨rfl,fun j c _ hj=>absurd hj (Nat.not_lt_zero j)⟩,fun num r hr=>(by cases hr),fun j m c y num _ _ _ hj=>absurd hj (Nat.not_lt_zero j),fun e he=>(by cases he),fun j c _ hj=>absurd hj (Nat.not_lt_zero j),fun j c n _ _ hj=>absurd hj (Nat.not_lt_zero j),fun j m c x z _ _ hj=>absurd hj (Nat.not_lt_zero j)⟩;rw[Nat.zero_add]at this;exact this
theorem qnd{l:PLog}{j m:Nat}{c:PBook}{x:PEnt}(h:At l j m c x):j<l.books.length:=(List.getElem?_eq_some_iff.1 h.book).1
theorem qlB{l:PLog}{wider:Int}{conf:List Int}:∀ e∈(qZ l wider conf).steps,Just l wider conf e:=(qet l wider conf).sub
theorem look_walk{l:PLog}{wider:Int}{conf:List Int}{e:zl}(h:Just l wider conf e):∃ n,PG.Walk (qZ l wider conf).steps e.a e.b n e.w:=by
 have hd:=qet l wider conf
 cases h with
 | off i b hb e he=>exact⟨1,.one (hd.off i b hb (List.getElem?_eq_some_iff.1 hb).1 _ he)⟩
 | set i b hb n h1 h2 e he=>exact⟨1,.one (hd.set i b n hb h1 (List.getElem?_eq_some_iff.1 hb).1 h2 _ he)⟩
 | ord i k b x y hx hy=>exact⟨1,.one (hd.ord i k b x y hx hy (qnd hx))⟩
 | rep i j m n b c x y num h=>
  obtain⟨r,h1,h2⟩:=hd.got i m b x num h.ha h.fa h.no (qnd h.ha);obtain⟨r',h1',h3⟩:=hd.got j n c y num h.hb h.fb h.no (qnd h.hb);rw[h1]at h1';have:r=r':=Option.some.inj h1';subst this
  rcases h2 with h2 | ⟨i1,m1,b1,x1,e1,hx1,s1,s1'⟩
  ·rcases h3 with h3 | ⟨i2,m2,b2,x2,e2,hx2,s2,s2'⟩
   ·
    rw[h2]at h3;have hij:i=j:=by injection h3;omega
    have hmn:m=n:=by injection h3;omega
    subst hij;subst hmn;have hbc:b=c:=Option.some.inj (h.ha.book.symm.trans h.hb.book);subst hbc;have hxy:x=y:=Option.some.inj (h.ha.ent.symm.trans h.hb.ent);subst hxy;refine⟨0,?_⟩;show PG.Walk _ _ _ 0 (x.shown-x.shown);rw[Int.sub_self];exact .nil _
   ·rw[h2]at e2
    have hij:i=i2:=by injection e2;omega
    have hmn:m=m2:=by injection e2;omega
    subst hij;subst hmn;have hbc:b=b2:=Option.some.inj (h.ha.book.symm.trans hx2.book);subst hbc;have hxy:x=x2:=Option.some.inj (h.ha.ent.symm.trans hx2.ent);subst hxy;exact⟨1,.one s2⟩
  ·rcases h3 with h3 | ⟨i2,m2,b2,x2,e2,hx2,s2,s2'⟩
   ·rw[h3]at e1
    have hij:j=i1:=by injection e1;omega
    have hmn:n=m1:=by injection e1;omega
    subst hij;subst hmn;have hbc:c=b1:=Option.some.inj (h.hb.book.symm.trans hx1.book);subst hbc;have hxy:y=x1:=Option.some.inj (h.hb.ent.symm.trans hx1.ent);subst hxy;exact⟨1,.one s1'⟩
   ·rw[e1]at e2
    have hij:i1=i2:=by injection e2;omega
    have hmn:m1=m2:=by injection e2;omega
    subst hij;subst hmn;have hbc:b1=b2:=Option.some.inj (hx1.book.symm.trans hx2.book);subst hbc;have hxy:x1=x2:=Option.some.inj (hx1.ent.symm.trans hx2.ent);subst hxy;refine⟨1+1,?_⟩;have hw:=(PG.Walk.one s1').trans (PG.Walk.one s2);have e:(qcV i i1 b b1 m m1 x x1).w+(qcV i1 j b1 c m1 n x1 y).w=(qcV i j b c m n x y).w:=by
     show(x1.shown-x.shown)+(y.shown-x1.shown)=y.shown-x.shown;omega
    rw[e]at hw;exact hw
structure Truth(l:PLog)(wider:Int)(conf:List Int)(t:Per->Int):Prop where
 right:t .right=0
 ok:∀ e,Just l wider conf e->t e.b<=t e.a+e.w
theorem qjI{l:PLog}{wider:Int}{conf:List Int}{t:Per->Int}(h0:t .right=0):Truth l wider conf t↔PG.Pot (qZ l wider conf).steps t:=by
 constructor
 ·exact fun h e he=>h.ok e (qlB e he)
 ·intro h
  refine⟨h0,fun e he=>?_⟩;obtain⟨n,hw⟩:=look_walk he;exact hw.pot h
def qbB(l:PLog)(wider:Int)(conf:List Int):Bool:=qlw (qZ l wider conf) (qdl (qZ l wider conf) .right)
theorem fits_iff(l:PLog)(wider:Int)(conf:List Int):qbB l wider conf=true ↔ ∃ t,Truth l wider conf t:=by
 have hs:=qjG l wider conf;unfold qbB;rw[hs.fit hs.right];constructor
 ·intro hno
  have hd:=hs.dist hno hs.right;have hp:=hd.pot fun e he=>hs.known hs.right (hs.ends e he).1;exact⟨_,(qjI (t:=fun v=>(zj (qdl (qZ l wider conf) .right) v).getD 0) (by have h0:zj (qdl (qZ l wider conf) .right) .right=some 0:=hd.root0;show(zj (qdl (qZ l wider conf) .right) .right).getD 0=0;rw[h0];rfl)).2 hp⟩
 ·rintro ⟨t,ht⟩
  exact PG.pot_noNeg ((qjI ht.right).1 ht)
def zK(x:LkS)(p q:Per):Span:=⟨-(atM (qdl x p) q),atM (qdl x q) p⟩
end Go.PX
