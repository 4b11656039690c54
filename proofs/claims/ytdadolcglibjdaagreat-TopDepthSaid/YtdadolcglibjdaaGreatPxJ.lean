import Derived.Test.YtdadolcglibjdaaGreatPxI
import Derived.ProofKit
import Derived.ReadAgain
import Derived.Test.YtdadolcglibjdaaGreatPxA
import Derived.Test.YtdadolcglibjdaaGreatPxH
import Derived.Test.YtdadolcglibjdaaGreatProg
set_option linter.all false
set_option maxRecDepth 10000
namespace Go.PX
open Go.RowKit Go.ChangeShapes
def pD(W:World)(b:Nat):Nat:=match W.heap[b]? with
 | some (.cells c _ _)=>c.size+1
 | some _=>1
 | none=>0
def Sc(W:World):Cx Unit where
 C:=fun _ b=>b<W.heap.size
 HG:=fun _ w F=>W.heap.size<=w.heap.size /\ ∀ b,b<W.heap.size->w.heap[b]?=W.heap[b]?
 yv:=none
 xZ:=none
 pρ:=id
 pκ:=id
 eJ:=by
  rintro s w F w' F' ⟨h1,h2⟩ tr hf hk;exact⟨Nat.le_trans h1 tr.size,fun b hb=>(hk b hb).1.trans (h2 b hb)⟩
structure Ad(W W':World):Prop where
 os:W'.os=W.os
 output:W'.output=W.output
 size:W.heap.size<=W'.heap.size
 heap:∀ b,b<W.heap.size->W'.heap[b]?=W.heap[b]?
theorem Ad.frame{W W':World}(h:Ad W W')(may:MemPlace->Prop):W.keptBut W' may:=by
 refine⟨h.os,h.output,fun i hi=>?_⟩;rw[h.heap i hi]
 cases W.heap[i]? with
 | none=>rfl
 | some o=>cases o with
  | cells c t fr=>exact⟨rfl,rfl,rfl,fun _ _=>rfl⟩
  | map es clock=>exact .inr ⟨rfl,rfl⟩
  | _=>rfl
theorem Ad.sameAt{W W':World}(h:Ad W W'){p:MemPlace}(hp:p.block<W.heap.size):W.sameAt W' p:=by
 cases p with
 | cell b off=>
  have:=h.heap b hp;simp only[World.sameAt,World.cell?,this]
 | map b=>exact h.heap b hp
theorem Laid.still{P:Program}{W w:World}(hl:Laid P W)(hs:W.heap.size<=w.heap.size)(hk:∀ b,b<W.heap.size->w.heap[b]?=W.heap[b]?):Laid P w:=by
 have lt:∀ {g:Nat} {o:Go.Obj},W.heap[g]?=some o->w.heap[g]?=some o:=fun {g o} h=>by
  rw[hk g (Array.getElem?_eq_some_iff.1 h).1];exact h
 have cell:∀ {g:Nat} {v:Value},W.cell? ⟨g,0,none⟩=some v->w.cell? ⟨g,0,none⟩=some v:=fun {g v} h=>by
  unfold World.cell? at h ⊢;simp only at h ⊢;split at h
  ·rename_i c t f hb
   rw[lt hb];exact h
  ·cases h
 refine⟨fun g hg=>?_,fun g hg=>?_,fun g hg=>?_,fun g hg=>?_⟩
 ·have h:=hl.tab g hg
  unfold Lib.TabIs World.var? at h ⊢;rw[hg]at h ⊢;simp only[Option.bind_some]at h ⊢;split at h
  ·rename_i c t f hb
   rw[lt hb];exact h
  ·cases h
 ·obtain⟨m,h⟩:=hl.len g hg;exact⟨m,cell h⟩
 ·obtain⟨m,v,h⟩:=hl.syn g hg;exact⟨m,v,cell h⟩
 ·obtain⟨m,v,h⟩:=hl.Z8 g hg;exact⟨m,v,cell h⟩
theorem top{P:Program}{f:FuncId}{ds:List D}{d:D}(h:aX P f ds d)(W:World)(hl:Laid P W)(args:Array Value)(hr:aS (pD W) W ds args.toList) :
  Calls P f args W fun e W'=>∃ x,e = .returned x/\(∃ F',bD F' W' d x)/\Ad W W':=by
 have h1:=(h (σ:=Unit) { y:=fun _ _ _ _=>False } ()).run (Sc W) ⟨fun l hl=>by(cases hl),fun s w F hh=>hl.still hh.1 hh.2⟩ ⟨id,id⟩ (pD W) args W
  ⟨⟨Nat.le_refl _,fun _ _=>rfl⟩,fun b hb=>hb,fun b hb=>by simp[pD,Array.getElem?_eq_none hb],fun id o ho=>by simp[get]at ho,fun id o ho=>by simp[get]at ho,fun i j o p ho=>by simp[get]at ho⟩ (aj.inj.2 hr)
 refine callsIn_wide.1 (h1.mono ?_);rintro e W' ⟨x,rfl,v,h',s',L',F',⟨⟨rfl,rfl⟩,_⟩,hh,hx,tr,_⟩;exact⟨x,rfl,⟨F',hx⟩,tr.os,tr.output,hh.hg.1,hh.hg.2⟩
theorem pW{H:Type}{enc:TypeId×Value->H}{P:Program}{W W':World}{base:Nat}{sp:Nat->Bool}{held:Bool}:∀ {ts:List TypeId} {vs:List Value} {ds:List (DataW H)} {ps:List MemPlace},
  DataW.TrodAll enc P W base sp held ts vs ds ps->(∀ p∈ps,W.sameAt W' p)->DataW.TrodAll enc P W' base sp held ts vs ds ps
 | [],[],[],_,h,_=>h
 | _::_,_::_,_::_,_,⟨p,q,⟨n,h1⟩,h2,e⟩,hs=>⟨p,q,⟨n,DataW.trod_carry n _ _ _ h1 fun x hx=>hs x (by rw[e];exact List.mem_append_left _ hx)⟩,pW h2 (fun x hx=>hs x (by rw[e];exact List.mem_append_right _ hx)),e⟩
structure Rd(P:Program)(W:World)(t:TypeId)(S:List D->Prop):Prop where
 read:∀ {H:Type} {enc:TypeId×Value->H} {sp:Nat->Bool} {held:Bool} {fuel:Nat} {cs:List Value} {x:DataW H×List MemPlace},DataW.trod enc P W 0 sp held fuel t cs=some x -> ∃ ds,S ds/\aS (pD W) W ds cs
section
variable {P : Program} {W : World} {t : TypeId}
theorem Rd.int{k:IntKind}(ht:P.underlying t=some (.int k)):Rd P W t fun ds=>∃ n,ds = [.int k n]:=by
 refine⟨?_⟩;intro H enc sp held fuel cs x h;obtain⟨n,rfl,_,_⟩:=DataW.trod_int ht h;exact⟨[.int k n],⟨n,rfl⟩,_,[],rfl,rfl,rfl⟩
theorem Rd.bool(ht:P.underlying t=some .bool):Rd P W t fun ds=>∃ b,ds = [.bool b]:=by
 refine⟨?_⟩;intro H enc sp held fuel cs x h;obtain⟨n,rfl,_⟩:=DataW.trod_bool ht h;exact⟨[.bool n],⟨n,rfl⟩,_,[],rfl,rfl,rfl⟩
theorem Rd.str(ht:P.underlying t=some .string):Rd P W t fun ds=>∃ s,ds = [.str s]:=by
 refine⟨?_⟩;intro H enc sp held fuel cs x h;obtain⟨n,rfl,_,_⟩:=DataW.trod_string ht h;exact⟨[.str n],⟨n,rfl⟩,_,[],rfl,rfl,rfl⟩
theorem Rd.mono{S S':List D->Prop}(h:Rd P W t S)(hS:∀ ds,S ds->S' ds):Rd P W t S':=by
 refine⟨?_⟩;intro H enc sp held fuel cs x hx;obtain⟨ds,h1,h2⟩:=h.read hx;exact⟨ds,hS ds h1,h2⟩
theorem Ex{b off:Nat}{v:Value}(h:W.cell? ⟨b,off,none⟩=some v):off<pD W b:=by
 unfold World.cell? at h;unfold pD;simp only at h;split at h
 ·rename_i c t' f hb
  rw[hb];simp only[Option.isSome_none,Bool.false_eq_true,if_false]at h;obtain⟨dI,_⟩:=Array.getElem?_eq_some_iff.1 h;simp only;omega
 ·cases h
theorem Bu:∀ {ds:List D} {cs:List Value} {b off:Nat},aS (pD W) W ds cs->(∀ i v,cs[i]?=some v->W.cell? ⟨b,off+i,none⟩=some v)->cc (pD W) W b off ds
 | [],_,_,_,_,_=>trivial
 | d::r,_,b,off,h,hc=>by
  obtain⟨x,l',rfl,hd,hl⟩:=h;have h0:=hc 0 x rfl;refine⟨Ex h0,⟨x,h0,hd⟩,Bu hl fun i v hv=>?_⟩;have:=hc (i+1) v hv
  rwa [show off+(i+1)=off+1+i by omega]at this
theorem oM{a:Addr}{k:Nat}{cs:List Value}(h:W.cells? 0 a k=some cs):cs.length=k /\ ∀ i v,cs[i]?=some v->W.cell? (a.add i)=some v:=by
 unfold World.cells? at h;rw[if_pos (Nat.zero_le _)]at h;have hl:cs.length=k:=by simpa using mapM_some_length h
 refine⟨hl,fun i v hv=>?_⟩;have hi:i<k:=by
  have:=(List.getElem?_eq_some_iff.1 hv).1;omega
 rw[mapM_some_get h i i (by simp[hi]),hv]
theorem vX{e:TypeId}{S:List D->Prop}{b:Nat}{k:Nat}:∀ {n:Nat} {off:Nat},(∀ i,i<n -> ∃ cs ds,cs.length=k/\(∀ j v,cs[j]?=some v->W.cell? ⟨b,off+i*k+j,none⟩=some v)/\S ds/\aS (pD W) W ds cs) ->
  ∃ es:List (List D),es.length=n/\(∀ e∈es,S e)/\cG (pD W) W b off k es
 | 0,off,_=>⟨[],rfl,fun e h=>by(cases h),trivial⟩
 | n+1,off,h=>by
  obtain⟨cs,ds,h1,h2,h3,h4⟩:=h 0 (by omega);obtain⟨es,g1,g2,g3⟩:=vX (e:=e) (S:=S) (n:=n) (off:=off+k) fun i hi=>by
   obtain⟨cs,ds,h1,h2,h3,h4⟩:=h (i+1) (by omega);refine⟨cs,ds,h1,fun j v hv=>?_,h3,h4⟩;have:=h2 j v hv
   rwa [show off+(i+1)*k+j=off+k+i*k+j by rw[Nat.add_mul];omega]at this
  refine⟨ds::es,by simp[g1],fun e he=>?_,?_,?_,g3⟩
  ·rcases List.mem_cons.1 he with rfl|he
   ·exact h3
   ·exact g2 e he
  ·rw[<- h4.length,h1]
  ·exact Bu h4 fun i v hv=>by simpa using h2 i v hv
theorem Rd.slice{e:TypeId}{S:List D->Prop}(ht:P.underlying t=some (.slice e)){k:Nat}(hk:P.cellsOf e=k)(AT:0<k)(he:Rd P W e S):Rd P W t fun ds=>∃ es,ds = [.vs es] /\ ∀ e∈es,S e:=by
 subst hk;refine⟨?_⟩;intro H enc sp held fuel cs x h;rcases DataW.trod_slice ht h with⟨rfl,_⟩|⟨a,len,cap,elems,rest,n,rfl,rfl,_,_,hl,_,hlen,Jd,_,_⟩
 ·exact⟨[.vs []],⟨[],rfl,fun e h=>by(cases h)⟩,_,[],rfl,⟨none,0,0,rfl,rfl,Nat.le_refl _,fun h=>absurd rfl h⟩,rfl⟩
 ·by_cases h0:len=0
  ·subst h0
   exact⟨[.vs []],⟨[],rfl,fun e h=>by(cases h)⟩,_,[],rfl,⟨some a,0,cap,rfl,rfl,hl,fun h=>absurd rfl h⟩,rfl⟩
  have one:∀ i,i<len -> ∃ cs ds,W.cells? 0 (a.add (i*P.cellsOf e)) (P.cellsOf e)=some cs/\S ds/\aS (pD W) W ds cs:=by
   intro i hi;have h1:=Jd i hi;rw[List.getElem?_eq_getElem (by omega)]at h1;obtain⟨cs,h2,h3⟩:=Option.bind_eq_some_iff.1 h1;obtain⟨ds,h4,h5⟩:=he.read h3;exact⟨cs,ds,h2,h4,h5⟩
  have hs:a.spot=none:=by
   obtain⟨cs,ds,h1,_,h3⟩:=one 0 (by omega);obtain⟨g1,g2⟩:=oM h1;have dI:0<cs.length:=by omega
   have:=g2 0 cs[0] (List.getElem?_eq_getElem dI);have:=World.cell?_spot this;simpa[Addr.add]using this
  obtain⟨b,off,spot⟩:=a;simp only at hs;subst hs;obtain⟨es,g1,g2,g3⟩:=vX (e:=e) (S:=S) (W:=W) (b:=b) (k:=P.cellsOf e) (n:=len) (off:=off) fun i hi=>by
   obtain⟨cs,ds,h1,h2,h3⟩:=one i hi;obtain⟨k1,k2⟩:=oM h1;refine⟨cs,ds,k1,fun j v hv=>?_,h2,h3⟩;have:=k2 j v hv;have e1:∀ n m:Nat,(Addr.add ⟨b,n,none⟩ m)=⟨b,n+m,none⟩:=by
    intro n m;unfold Addr.add;split
    ·rename_i h;subst h;rfl
    ·rfl
   rw[e1,e1]at this;exact this
  exact⟨[.vs es],⟨es,rfl,g2⟩,_,[],rfl,⟨some ⟨b,off,none⟩,len,cap,rfl,g1.symm,hl,fun _=>⟨b,off,_,rfl,AT,g3⟩⟩,rfl⟩
def FW:List (List D->Prop)->List D->Prop
 | [],ds=>ds = []
 | S::r,ds=>∃ a b,ds=a++b/\S a/\FW r b
theorem aS.app{F:Nat->Nat}{w:World}:∀ {a b:List D} {l m:List Value},aS F w a l->aS F w b m->aS F w (a++b) (l++m)
 | [],b,l,m,h1,h2=>by
  have:l = []:=h1;subst this;exact h2
 | d::a,b,l,m,h1,h2=>by
  obtain⟨x,l',rfl,hd,hl⟩:=h1;exact⟨x,l'++m,rfl,hd,aS.app hl h2⟩
inductive NV(P:Program)(W:World):List Field->Nat->Nat->List (List D->Prop)->Prop where
 | nil (n:Nat):NV P W [] n n []
 | cons {f:Field} {fs:List Field} {off n k:Nat} {S:List D->Prop} {Ss:List (List D->Prop)} (ho:f.offset=off) (hk:P.cellsOf f.type=k) (hf:Rd P W f.type S) (hr:NV P W fs (off+k) n Ss):NV P W (f::fs) off n (S::Ss)
theorem HV{fs:List Field}{off n:Nat}{Ss:List (List D->Prop)}(h:NV P W fs off n Ss):∀ {H:Type} {enc:TypeId×Value->H} {sp:Nat->Bool} {held:Bool} {fuel:Nat} {cs:List Value} {xs:List (DataW H×List MemPlace)},cs.length=n ->
  fs.mapM (fun f=>DataW.trod enc P W 0 sp held fuel f.type ((cs.drop f.offset).take (P.cellsOf f.type)))=some xs -> ∃ ds,FW Ss ds/\aS (pD W) W ds (cs.drop off):=by
 induction h with
 | nil m=>
  intro H enc sp held fuel cs xs hn _;rw[List.drop_eq_nil_of_le (by omega)];exact⟨[],rfl,rfl⟩
 | @cons f fs off m k S Ss ho hk hf hr ih=>
  intro H enc sp held fuel cs xs hn hm;rw[List.mapM_cons]at hm;simp only[Option.bind_eq_bind,Option.bind_eq_some_iff,Option.pure_def,Option.some.injEq]at hm;obtain⟨y,hy,ys,WO,_⟩:=hm;obtain⟨Oq,h1,h2⟩:=hf.read hy;obtain⟨Ot,h3,h4⟩:=ih hn WO;rw[ho,hk]at h2;refine⟨Oq++Ot,⟨Oq,Ot,rfl,h1,h3⟩,?_⟩;have h5:=aS.app h2 h4
  rwa [show(cs.drop off).take k++cs.drop (off+k)=cs.drop off by rw[<- List.drop_drop];exact List.take_append_drop _ _]at h5
theorem Rd.struct{fs:Array Field}{n:Nat}{Ss:List (List D->Prop)}(ht:P.underlying t=some (.struct fs))(hn:P.cellsOf t=n)(hf:NV P W fs.toList 0 n Ss):Rd P W t (FW Ss):=by
 refine⟨?_⟩;intro H enc sp held fuel cs x h
 cases fuel with
 | zero=>simp[DataW.trod]at h
 | succ fuel=>
  unfold DataW.trod at h;rw[ht]at h;simp only at h;split at h
  ·rename_i hl
   obtain⟨xs,Hp,_⟩:=Option.map_eq_some_iff.1 h;obtain⟨ds,h1,h2⟩:=HV hf (hl.trans hn) Hp;exact⟨ds,h1,by simpa using h2⟩
  ·cases h
end
theorem ir{α:Type}{f:α->List D}{S:List D->Prop}(h:∀ ds,S ds -> ∃ a,ds=f a):∀ {es:List (List D)},(∀ e∈es,S e) -> ∃ l:List α,es=l.map f
 | [],_=>⟨[],rfl⟩
 | e::r,he=>by
  obtain⟨a,ha⟩:=h e (he e (by simp));obtain⟨l,hl⟩:=ir h (es:=r) fun x hx=>he x (by simp[hx]);exact⟨a::l,by rw[ha,hl];rfl⟩
def Kl(l:List Nat):Prop:=∀ n∈l,n<=reachBytes
theorem jY{a b:List Nat}:Kl (a++b)↔Kl a/\Kl b:=
 ⟨fun h=>⟨fun n hn=>h n (List.mem_append_left _ hn),fun n hn=>h n (List.mem_append_right _ hn)⟩,fun h n hn=>by
  rcases List.mem_append.1 hn with hn|hn
  ·exact h.1 n hn
  ·exact h.2 n hn⟩
theorem Km{l:List Nat}(h:l.all (· <=reachBytes)=true):Kl l:=fun n hn=>by
 have:=List.all_eq_true.1 h n hn;simpa using this
structure yE(P:Program)(W:World)(t:TypeId)(S:List D->Prop):Prop where
 read:∀ {H:Type} {enc:TypeId×Value->H} {sp:Nat->Bool} {held:Bool} {fuel:Nat} {cs:List Value} {x:DataW H×List MemPlace},DataW.trod enc P W 0 sp held fuel t cs=some x->Kl (x.1.weights P t) -> ∃ ds,S ds/\aS (pD W) W ds cs
section
variable {P : Program} {W : World} {t : TypeId}
theorem Rd.z{S:List D->Prop}(h:Rd P W t S):yE P W t S:=⟨fun hx _=>h.read hx⟩
theorem yE.mono{S S':List D->Prop}(h:yE P W t S)(hS:∀ ds,S ds->S' ds):yE P W t S':=by
 refine⟨?_⟩;intro H enc sp held fuel cs x hx hw;obtain⟨ds,h1,h2⟩:=h.read hx hw;exact⟨ds,hS ds h1,h2⟩
theorem kO{H:Type}{e:TypeId}:∀ {l:List (DataW H)} {d:DataW H},d∈l->Kl (DataW.weightsAll P e l)->Kl (d.weights P e)
 | a::r,d,hd,h=>by
  rw[DataW.weightsAll]at h;rcases List.mem_cons.1 hd with rfl|hd
  ·exact(jY.1 h).1
  ·exact kO hd (jY.1 h).2
theorem yE.slice{e:TypeId}{S:List D->Prop}(ht:P.underlying t=some (.slice e)){k:Nat}(hk:P.cellsOf e=k)(AT:0<k)(he:yE P W e S) :
  yE P W t fun ds=>∃ es,ds = [.vs es]/\(∀ e∈es,S e)/\es.length*P.bytesOf e<=reachBytes:=by
 subst hk;refine⟨?_⟩;intro H enc sp held fuel cs x h hw;rcases DataW.trod_slice ht h with⟨rfl,_⟩|⟨a,len,cap,elems,rest,n,rfl,rfl,WM,_,hl,_,hlen,Jd,_,_⟩
 ·exact⟨[.vs []],⟨[],rfl,fun e h=>by(cases h),by simp⟩,_,[],rfl,⟨none,0,0,rfl,rfl,Nat.le_refl _,fun h=>absurd rfl h⟩,rfl⟩
 ·by_cases h0:len=0
  ·subst h0
   exact⟨[.vs []],⟨[],rfl,fun e h=>by(cases h),by simp⟩,_,[],rfl,⟨some a,0,cap,rfl,rfl,hl,fun h=>absurd rfl h⟩,rfl⟩
  subst WM;rw[DataW.weights,ht]at hw;have cY:len*P.bytesOf e<=reachBytes:=by
   have:=hw ((elems.length+rest.length)*P.bytesOf e) (by simp);have h2:len*P.bytesOf e<=(elems.length+rest.length)*P.bytesOf e:=Nat.mul_le_mul_right _ (by omega);omega
  have ZO:Kl (DataW.weightsAll P e (elems.map (·.1))):=by
   intro n hn;exact hw n (by simp;right;left;simpa using hn)
  have one:∀ i,i<len -> ∃ cs ds,W.cells? 0 (a.add (i*P.cellsOf e)) (P.cellsOf e)=some cs/\S ds/\aS (pD W) W ds cs:=by
   intro i hi;have h1:=Jd i hi;have G0:elems[i]?=some elems[i]:=List.getElem?_eq_getElem (by omega);rw[G0]at h1;obtain⟨cs,h2,h3⟩:=Option.bind_eq_some_iff.1 h1;obtain⟨ds,h4,h5⟩:=he.read h3 (kO (List.mem_map.2 ⟨_,List.mem_of_getElem? G0,rfl⟩) ZO);exact⟨cs,ds,h2,h4,h5⟩
  have hs:a.spot=none:=by
   obtain⟨cs,ds,h1,_,h3⟩:=one 0 (by omega);obtain⟨g1,g2⟩:=oM h1;have dI:0<cs.length:=by omega
   have:=g2 0 cs[0] (List.getElem?_eq_getElem dI);have:=World.cell?_spot this;simpa[Addr.add]using this
  obtain⟨b,off,spot⟩:=a;simp only at hs;subst hs;obtain⟨es,g1,g2,g3⟩:=vX (e:=e) (S:=S) (W:=W) (b:=b) (k:=P.cellsOf e) (n:=len) (off:=off) fun i hi=>by
   obtain⟨cs,ds,h1,h2,h3⟩:=one i hi;obtain⟨k1,k2⟩:=oM h1;refine⟨cs,ds,k1,fun j v hv=>?_,h2,h3⟩;have:=k2 j v hv;have e1:∀ n m:Nat,(Addr.add ⟨b,n,none⟩ m)=⟨b,n+m,none⟩:=by
    intro n m;unfold Addr.add;split
    ·rename_i h;subst h;rfl
    ·rfl
   rw[e1,e1]at this;exact this
  exact⟨[.vs es],⟨es,rfl,g2,by rw[g1];exact cY⟩,_,[],rfl,⟨some ⟨b,off,none⟩,len,cap,rfl,g1.symm,hl,fun _=>⟨b,off,_,rfl,AT,g3⟩⟩,rfl⟩
inductive F8(P:Program)(W:World):List Field->Nat->Nat->List (List D->Prop)->Prop where
 | nil (n:Nat):F8 P W [] n n []
 | cons {f:Field} {fs:List Field} {off n k:Nat} {S:List D->Prop} {Ss:List (List D->Prop)} (ho:f.offset=off) (hk:P.cellsOf f.type=k) (hf:yE P W f.type S) (hr:F8 P W fs (off+k) n Ss):F8 P W (f::fs) off n (S::Ss)
theorem Fw{fs:List Field}{off n:Nat}{Ss:List (List D->Prop)}(h:F8 P W fs off n Ss):∀ {H:Type} {enc:TypeId×Value->H} {sp:Nat->Bool} {held:Bool} {fuel:Nat} {cs:List Value} {xs:List (DataW H×List MemPlace)},cs.length=n ->
  fs.mapM (fun f=>DataW.trod enc P W 0 sp held fuel f.type ((cs.drop f.offset).take (P.cellsOf f.type)))=some xs->Kl (DataW.weightsEach P (fs.map (·.type)) (xs.map (·.1))) -> ∃ ds,FW Ss ds/\aS (pD W) W ds (cs.drop off):=by
 induction h with
 | nil m=>
  intro H enc sp held fuel cs xs hn _ _;rw[List.drop_eq_nil_of_le (by omega)];exact⟨[],rfl,rfl⟩
 | @cons f fs off m k S Ss ho hk hf hr ih=>
  intro H enc sp held fuel cs xs hn hm hw;rw[List.mapM_cons]at hm;simp only[Option.bind_eq_bind,Option.bind_eq_some_iff,Option.pure_def,Option.some.injEq]at hm;obtain⟨y,hy,ys,WO,rfl⟩:=hm;rw[List.map_cons,List.map_cons,DataW.weightsEach]at hw;obtain⟨ZM,ZN⟩:=jY.1 hw;obtain⟨Oq,h1,h2⟩:=hf.read hy ZM;obtain⟨Ot,h3,h4⟩:=ih hn WO ZN;rw[ho,hk]at h2;refine⟨Oq++Ot,⟨Oq,Ot,rfl,h1,h3⟩,?_⟩;have h5:=aS.app h2 h4
  rwa [show(cs.drop off).take k++cs.drop (off+k)=cs.drop off by rw[<- List.drop_drop];exact List.take_append_drop _ _]at h5
theorem yE.struct{fs:Array Field}{n:Nat}{Ss:List (List D->Prop)}(ht:P.underlying t=some (.struct fs))(hn:P.cellsOf t=n)(hf:F8 P W fs.toList 0 n Ss):yE P W t (FW Ss):=by
 refine⟨?_⟩;intro H enc sp held fuel cs x h hw
 cases fuel with
 | zero=>simp[DataW.trod]at h
 | succ fuel=>
  unfold DataW.trod at h;rw[ht]at h;simp only at h;split at h
  ·rename_i hl
   obtain⟨xs,Hp,rfl⟩:=Option.map_eq_some_iff.1 h;simp only at hw;rw[DataW.weights,ht]at hw;obtain⟨ds,h1,h2⟩:=Fw hf (hl.trans hn) Hp hw;exact⟨ds,h1,by simpa using h2⟩
  ·cases h
theorem yE.array{e:TypeId}{n k:Nat}{S:List D->Prop}(ht:P.underlying t=some (.array n e))(hn:P.cellsOf t=n*k)(hk:P.cellsOf e=k)(he:yE P W e S) :
  yE P W t fun ds=>∃ DA:List (List D),ds=DA.flatten/\DA.length=n /\ ∀ d∈DA,S d:=by
 refine⟨?_⟩;intro H enc sp held fuel cs x h hw
 cases fuel with
 | zero=>simp[DataW.trod]at h
 | succ fuel=>
  unfold DataW.trod at h;rw[ht]at h;simp only at h;split at h
  ·rename_i hl
   obtain⟨xs,Hp,rfl⟩:=Option.map_eq_some_iff.1 h;simp only at hw;rw[DataW.weights,ht]at hw;rw[hk]at Hp;have hlen:xs.length=n:=by simpa using mapM_some_length Hp
   have step:∀ m,m<=n -> ∃ DA:List (List D),DA.length=m/\(∀ d∈DA,S d)/\aS (pD W) W DA.flatten (cs.take (m*k)):=by
    intro m
    induction m with
    | zero=>intro _;exact⟨[],rfl,fun d h=>by(cases h),by rw[Nat.zero_mul];exact(List.take_zero:cs.take 0 = [])⟩
    | succ m ih=>
     intro hm;obtain⟨DA,h1,h2,h3⟩:=ih (by omega);have hg:=mapM_some_get Hp m m (by rw[List.getElem?_range (by omega)]);have G0:xs[m]?=some xs[m]:=List.getElem?_eq_getElem (by omega);rw[G0]at hg;obtain⟨d,h4,h5⟩:=he.read hg (kO (List.mem_map.2 ⟨_,List.mem_of_getElem? G0,rfl⟩) hw);refine⟨DA ++ [d],by simp[h1],fun u hu=>?_,?_⟩
     ·rcases List.mem_append.1 hu with hu|hu
      ·exact h2 u hu
      ·rw[List.mem_singleton]at hu;subst hu;exact h4
     ·rw[Nat.add_mul,Nat.one_mul,List.take_add]
      simpa using aS.app h3 h5
   obtain⟨DA,h1,h2,h3⟩:=step n (Nat.le_refl _);refine⟨DA.flatten,⟨DA,rfl,h1,h2⟩,?_⟩
   rwa [List.take_of_length_le (by omega)]at h3
  ·cases h
end
end Go.PX
namespace Go.PX
def tys:dV:=(.nd (.nd (.nd (.nd (.nd (.nd (.nd .lf 3
 ⟨1,8,.int .i64,false,false,some [.int .i64 0]⟩
 .lf) 4
 ⟨1,1,.bool,false,false,some [.bool false]⟩
 (.nd .lf 5
 ⟨1,1,.int .u8,false,false,some [.int .u8 0]⟩
 .lf)) 9
 { size:=1,bytes:=16,kd:=.str,isAgg:=false,held:=false,zero:=some [.str ⟨#[]⟩] }
 (.nd (.nd .lf 20
 ⟨1,16,.iface,false,false,some [.nili]⟩
 .lf) 21
 ⟨1,4,.int .i32,false,false,some [.int .i32 0]⟩
 .lf)) 22
 ⟨1,24,.slice 137,false,false,some [.nils]⟩
 (.nd (.nd (.nd .lf 23
 ⟨1,24,.slice 141,false,false,some [.nils]⟩
 .lf) 25
 ⟨2,48,.struct [(0,22),(1,23)],true,false,some [.nils,.nils]⟩
 .lf) 26
 ⟨1,24,.slice 73,false,false,some [.nils]⟩
 (.nd (.nd .lf 27
 ⟨1,24,.slice 60,false,false,some [.nils]⟩
 .lf) 29
 ⟨7,120,.struct [(0,25),(2,3),(3,26),(4,27),(5,3),(6,3)],true,false,some [.nils,.nils,.int .i64 0,.nils,.nils,.int .i64 0,.int .i64 0]⟩
 .lf))) 30
 ⟨1,24,.slice 81,false,false,some [.nils]⟩
 (.nd (.nd (.nd (.nd .lf 32
 ⟨2,16,.struct [(0,3),(1,3)],true,false,some [.int .i64 0,.int .i64 0]⟩
 .lf) 33
 ⟨1,24,.slice 148,false,false,some [.nils]⟩
 .lf) 35
 ⟨7,88,.struct [(0,30),(1,3),(2,3),(3,3),(4,32),(6,33)],true,false,some [.nils,.int .i64 0,.int .i64 0,.int .i64 0,.int .i64 0,.int .i64 0,.nils]⟩
 (.nd (.nd .lf 37
 ⟨4,32,.struct [(0,3),(1,3),(2,3),(3,3)],true,false,some [.int .i64 0,.int .i64 0,.int .i64 0,.int .i64 0]⟩
 .lf) 38
 ⟨1,24,.slice 62,false,false,some [.nils]⟩
 .lf)) 40
 ⟨13,152,.struct [(0,35),(7,37),(11,3),(12,38)],true,false,some [.nils,.int .i64 0,.int .i64 0,.int .i64 0,.int .i64 0,.int .i64 0,.nils,.int .i64 0,.int .i64 0,.int .i64 0,.int .i64 0,.int .i64 0,.nils]⟩
 (.nd (.nd (.nd .lf 41
 ⟨2,2,.array 2 5,true,false,some [.int .u8 0,.int .u8 0]⟩
 .lf) 42
 ⟨1,24,.slice 120,false,false,some [.nils]⟩
 .lf) 44
 ⟨4,56,.struct [(0,41),(2,42),(3,42)],true,false,some [.int .u8 0,.int .u8 0,.nils,.nils]⟩
 (.nd (.nd .lf 45
 ⟨1,8,.int .i64,false,false,some [.int .i64 0]⟩
 .lf) 50
 ⟨1,24,.slice 85,false,false,some [.nils]⟩
 .lf)))) 53
 ⟨2,16,.struct [(0,3),(1,3)],true,false,some [.int .i64 0,.int .i64 0]⟩
 (.nd (.nd (.nd (.nd (.nd .lf 55
 ⟨1,24,.slice 53,false,false,some [.nils]⟩
 .lf) 60
 ⟨7,56,.struct [(0,32),(2,32),(4,32),(6,3)],true,false,some [.int .i64 0,.int .i64 0,.int .i64 0,.int .i64 0,.int .i64 0,.int .i64 0,.int .i64 0]⟩
 .lf) 62
 ⟨8,64,.struct [(0,32),(2,32),(4,32),(6,32)],true,false,some [.int .i64 0,.int .i64 0,.int .i64 0,.int .i64 0,.int .i64 0,.int .i64 0,.int .i64 0,.int .i64 0]⟩
 (.nd (.nd .lf 71
 ⟨1,24,.slice 9,false,false,some [.nils]⟩
 .lf) 73
 { size:=4,bytes:=40,kd:=(.struct [(0,9),(1,4),(2,32)]),isAgg:=true,held:=false,zero:=some [.str ⟨#[]⟩,.bool false,.int .i64 0,.int .i64 0] }
 .lf)) 79
 ⟨1,24,.slice 179,false,false,some [.nils]⟩
 (.nd (.nd (.nd .lf 81
 { size:=8,bytes:=88,kd:=(.struct [(0,9),(1,3),(2,3),(3,32),(5,32),(7,79)]),isAgg:=true,held:=false,zero:=some [.str ⟨#[]⟩,.int .i64 0,.int .i64 0,.int .i64 0,.int .i64 0,.int .i64 0,.int .i64 0,.nils] }
 .lf) 85
 ⟨4,32,.struct [(0,3),(1,3),(2,3),(3,3)],true,false,some [.int .i64 0,.int .i64 0,.int .i64 0,.int .i64 0]⟩
 .lf) 87
 ⟨1,24,.slice 32,false,false,some [.nils]⟩
 (.nd (.nd .lf 92
 ⟨4,32,.struct [(0,32),(2,32)],true,false,some [.int .i64 0,.int .i64 0,.int .i64 0,.int .i64 0]⟩
 .lf) 95
 ⟨1,24,.slice 3,false,false,some [.nils]⟩
 .lf))) 111
 ⟨6,64,.struct [(0,3),(1,3),(2,3),(3,3),(4,3),(5,95)],true,false,some [.int .i64 0,.int .i64 0,.int .i64 0,.int .i64 0,.int .i64 0,.nils]⟩
 (.nd (.nd (.nd (.nd .lf 120
 ⟨1,2,.int .u16,false,false,some [.int .u16 0]⟩
 .lf) 124
 ⟨1,8,.other,false,false,some [.nilp]⟩
 .lf) 128
 ⟨1,8,.other,false,false,some [.nilp]⟩
 (.nd (.nd .lf 135
 ⟨1,24,.slice 151,false,false,some [.nils]⟩
 .lf) 137
 { size:=4,bytes:=56,kd:=(.struct [(0,9),(1,53),(3,135)]),isAgg:=true,held:=false,zero:=some [.str ⟨#[]⟩,.int .i64 0,.int .i64 0,.nils] }
 .lf)) 141
 { size:=6,bytes:=72,kd:=(.struct [(0,9),(1,55),(2,92)]),isAgg:=true,held:=false,zero:=some [.str ⟨#[]⟩,.nils,.int .i64 0,.int .i64 0,.int .i64 0,.int .i64 0] }
 (.nd (.nd (.nd .lf 148
 ⟨2,16,.struct [(0,3),(1,3)],true,false,some [.int .i64 0,.int .i64 0]⟩
 .lf) 149
 ⟨1,24,.slice 45,false,false,some [.nils]⟩
 .lf) 151
 ⟨2,16,.struct [(0,3),(1,3)],true,false,some [.int .i64 0,.int .i64 0]⟩
 (.nd (.nd .lf 154
 ⟨8,64,.array 4 32,true,false,some [.int .i64 0,.int .i64 0,.int .i64 0,.int .i64 0,.int .i64 0,.int .i64 0,.int .i64 0,.int .i64 0]⟩
 .lf) 158
 ⟨1,8,.other,false,false,some [.nilf]⟩
 .lf))))) 159
 ⟨1,8,.other,false,false,some [.nilf]⟩
 (.nd (.nd (.nd (.nd (.nd (.nd .lf 160
 ⟨1,8,.other,false,false,some [.nilf]⟩
 .lf) 163
 ⟨1,8,.struct [(0,124)],true,false,some [.nilp]⟩
 .lf) 166
 ⟨1,16,.iface,false,false,some [.nili]⟩
 (.nd (.nd .lf 167
 ⟨4,64,.array 4 166,true,false,some [.nili,.nili,.nili,.nili]⟩
 .lf) 168
 ⟨1,8,.map 256 3,false,false,some [.nilm]⟩
 .lf)) 170
 ⟨13,216,.struct [(0,29),(7,50),(8,167),(12,168)],true,false,some [.nils,.nils,.int .i64 0,.nils,.nils,.int .i64 0,.int .i64 0,.nils,.nili,.nili,.nili,.nili,.nilm]⟩
 (.nd (.nd (.nd .lf 173
 { size:=9,bytes:=96,kd:=(.struct [(0,81),(8,3)]),isAgg:=true,held:=false,zero:=some [.str ⟨#[]⟩,.int .i64 0,.int .i64 0,.int .i64 0,.int .i64 0,.int .i64 0,.int .i64 0,.nils,.int .i64 0] }
 .lf) 179
 ⟨2,16,.struct [(0,3),(1,3)],true,false,some [.int .i64 0,.int .i64 0]⟩
 .lf) 184
 ⟨1,8,.other,false,false,some [.nilf]⟩
 (.nd (.nd .lf 186
 ⟨1,8,.map 3 32,false,false,some [.nilm]⟩
 .lf) 188
 ⟨15,184,.struct [(0,40),(13,87),(14,186)],true,false,some [.nils,.int .i64 0,.int .i64 0,.int .i64 0,.int .i64 0,.int .i64 0,.nils,.int .i64 0,.int .i64 0,.int .i64 0,.int .i64 0,.int .i64 0,.nils,.nils,.nilm]⟩
 .lf))) 190
 ⟨10,96,.struct [(0,37),(4,111)],true,false,some [.int .i64 0,.int .i64 0,.int .i64 0,.int .i64 0,.int .i64 0,.int .i64 0,.int .i64 0,.int .i64 0,.int .i64 0,.nils]⟩
 (.nd (.nd (.nd (.nd .lf 197
 ⟨1,24,.slice 4,false,false,some [.nils]⟩
 .lf) 199
 ⟨1,8,.other,false,false,some [.nilf]⟩
 .lf) 207
 ⟨1,8,.other,false,false,some [.nilf]⟩
 (.nd (.nd .lf 208
 ⟨1,8,.other,false,false,some [.nilf]⟩
 .lf) 212
 ⟨1,8,.other,false,false,some [.nilf]⟩
 .lf)) 218
 ⟨1,8,.struct [(0,124)],true,false,some [.nilp]⟩
 (.nd (.nd (.nd .lf 222
 ⟨32,256,.array 32 3,true,false,some (List.replicate 32 (.int .i64 0))⟩
 .lf) 225
 ⟨1,8,.other,false,false,some [.nilf]⟩
 .lf) 226
 ⟨1,8,.other,false,false,some [.nilf]⟩
 (.nd (.nd .lf 229
 ⟨3,24,.struct [(0,3),(1,32)],true,false,some [.int .i64 0,.int .i64 0,.int .i64 0]⟩
 .lf) 231
 ⟨1,8,.other,false,false,some [.nilf]⟩
 .lf)))) 234
 ⟨2,16,.array 2 158,true,false,some [.nilf,.nilf]⟩
 (.nd (.nd (.nd (.nd (.nd .lf 247
 ⟨1,8,.other,false,false,some [.nilf]⟩
 .lf) 248
 ⟨1,8,.other,false,false,some [.nilf]⟩
 .lf) 251
 ⟨1,8,.other,false,false,some [.nilf]⟩
 (.nd (.nd .lf 256
 ⟨3,24,.struct [(0,3),(1,53)],true,false,some [.int .i64 0,.int .i64 0,.int .i64 0]⟩
 .lf) 257
 ⟨1,8,.other,false,false,some [.nilf]⟩
 .lf)) 258
 ⟨1,8,.other,false,false,some [.nilf]⟩
 (.nd (.nd (.nd .lf 259
 ⟨1,8,.other,false,false,some [.nilf]⟩
 .lf) 264
 ⟨1,8,.other,false,false,some [.nilf]⟩
 .lf) 266
 ⟨1,8,.other,false,false,some [.nilf]⟩
 (.nd (.nd .lf 268
 ⟨1,8,.other,false,false,some [.nilf]⟩
 .lf) 269
 ⟨1,8,.other,false,false,some [.nilf]⟩
 .lf))) 274
 ⟨1,8,.other,false,false,some [.nilf]⟩
 (.nd (.nd (.nd (.nd .lf 275
 ⟨1,8,.map 9 3,false,false,some [.nilm]⟩
 .lf) 276
 ⟨1,8,.other,false,false,some [.nilf]⟩
 .lf) 278
 { size:=6,bytes:=72,kd:=(.struct [(0,141)]),isAgg:=true,held:=false,zero:=some [.str ⟨#[]⟩,.nils,.int .i64 0,.int .i64 0,.int .i64 0,.int .i64 0] }
 (.nd (.nd .lf 280
 ⟨1,8,.other,false,false,some [.nilf]⟩
 .lf) 281
 ⟨1,8,.other,false,false,some [.nilf]⟩
 .lf)) 283
 ⟨16,128,.array 8 53,true,false,some (List.replicate 16 (.int .i64 0))⟩
 (.nd (.nd (.nd .lf 286
 ⟨1,8,.other,false,false,some [.nilf]⟩
 .lf) 287
 ⟨1,8,.other,false,false,some [.nilf]⟩
 .lf) 290
 ⟨4,32,.struct [(0,53),(2,53)],true,false,some [.int .i64 0,.int .i64 0,.int .i64 0,.int .i64 0]⟩
 (.nd (.nd .lf 293
 ⟨1,8,.other,false,false,some [.nilf]⟩
 .lf) 310
 ⟨1,8,.other,false,false,some [.nilf]⟩
 .lf))))))
def Yq:FT:=⟨[0,1,2,3,4,5,6,9,12,13,14,15,16,17,18,19,20,21,22,23,24,27,45,68,73,83,130,136,143],[(5,⟨[14],[⟨[3],[]⟩,⟨[5],[0]⟩,⟨[50,51],[]⟩,⟨[3],[0,1,2]⟩,⟨[5],[0,1,2,3]⟩,⟨[53,54],[]⟩,⟨[],[0,1,2,3,4,5]⟩,⟨[52],[]⟩,⟨[14,55],[]⟩]⟩),(13,⟨[],[⟨[3],[]⟩,⟨[15],[0]⟩,⟨[17],[0,1]⟩,⟨[77,78],[0]⟩,⟨[79],[0]⟩,⟨[76,80],[]⟩,⟨[81],[]⟩]⟩),(16,⟨[],[⟨[16],[]⟩,⟨[88],[]⟩,⟨[3],[0,1]⟩,⟨[90],[0,1]⟩,⟨[18],[0,1,2,3]⟩,⟨[91,92],[0,1]⟩,⟨[93],[0,1]⟩,⟨[94],[0,1]⟩,⟨[95],[0,1]⟩,⟨[89,96],[]⟩,⟨[16],[0,1,2,3,4,5,6,7,8,9]⟩,⟨[98],[0,1,2,3,4,5,6,7,8,9]⟩,⟨[3],[0,1,2,3,4,5,6,7,8,9,10,11]⟩,⟨[100],[0,1,2,3,4,5,6,7,8,9,10,11]⟩,⟨[18],[0,1,2,3,4,5,6,7,8,9,10,11,12,13]⟩,⟨[101,102],[0,1,2,3,4,5,6,7,8,9,10,11]⟩,⟨[103],[0,1,2,3,4,5,6,7,8,9,10,11]⟩,⟨[104],[0,1,2,3,4,5,6,7,8,9,10,11]⟩,⟨[105],[0,1,2,3,4,5,6,7,8,9,10,11]⟩,⟨[99,106],[0,1,2,3,4,5,6,7,8,9]⟩,⟨[97,107],[]⟩,⟨[16,108],[]⟩]⟩),(28,⟨[],[⟨[3],[]⟩,⟨[160],[]⟩,⟨[19],[0,1]⟩,⟨[161,162],[]⟩,⟨[163],[]⟩,⟨[164],[]⟩,⟨[5],[0,1,2,3,4,5]⟩,⟨[166],[0,1,2,3,4,5]⟩,⟨[167],[0,1,2,3,4,5]⟩,⟨[168],[0,1,2,3,4,5]⟩,⟨[5],[0,1,2,3,4,5,6,7,8,9]⟩,⟨[170],[0,1,2,3,4,5,6,7,8,9]⟩,⟨[171],[0,1,2,3,4,5,6,7,8,9]⟩,⟨[172],[0,1,2,3,4,5,6,7,8,9]⟩,⟨[169,173],[0,1,2,3,4,5]⟩,⟨[165,174],[]⟩,⟨[175],[]⟩]⟩)]⟩
def Yr:FT:=⟨[0,1,2,3,4,7,8,9,10,11,20,37,42,47,65,75,81,86,96],[(16,⟨[],[⟨[10],[]⟩,⟨[66],[]⟩,⟨[10],[0,1]⟩,⟨[68],[0,1]⟩,⟨[69],[0,1]⟩,⟨[10],[0,1,2,3,4]⟩,⟨[71],[0,1,4]⟩,⟨[67,70,72],[]⟩,⟨[73],[]⟩]⟩)]⟩
def Ys:FT:=⟨[0,1,2,3,4,5,6,7,8,9,10,11,20,47,51,57,69,74,79,89],[(12,⟨[],[⟨[1],[]⟩,⟨[60],[]⟩,⟨[1],[0,1]⟩,⟨[62],[0,1]⟩,⟨[63],[0,1]⟩,⟨[9],[0,1,2,3,4]⟩,⟨[64,65],[0,1]⟩,⟨[66],[0,1]⟩,⟨[67],[0,1]⟩,⟨[61,68],[]⟩]⟩)]⟩
def Yt:FT:=⟨[0,1,2,3,4,5,6,7,8,9,10,11,12,13,14,15,17],[(8,⟨[107,113,120,131],[⟨[2],[]⟩,⟨[76],[]⟩,⟨[77],[]⟩,⟨[4,78],[]⟩,⟨[78,79],[]⟩,⟨[78,80],[]⟩,⟨[81],[]⟩,⟨[6,82],[]⟩,⟨[82,83],[]⟩,⟨[82,84],[]⟩,⟨[85],[]⟩,⟨[8,86],[]⟩,⟨[86,87],[]⟩,⟨[86,88],[]⟩,⟨[89],[]⟩,⟨[11,90],[]⟩,⟨[90,91],[]⟩,⟨[90,92],[]⟩,⟨[93],[]⟩,⟨[15,94],[]⟩,⟨[94,95],[]⟩,⟨[94,96],[]⟩,⟨[97],[]⟩,⟨[17,98],[]⟩,⟨[98,99],[]⟩,⟨[98,100],[]⟩,⟨[101],[]⟩,⟨[1,102],[]⟩,⟨[102],[27]⟩,⟨[102],[27]⟩,⟨[102],[27]⟩,⟨[102,104,105,106],[27]⟩,⟨[102,103,107],[]⟩,⟨[102,108],[]⟩,⟨[109],[]⟩,⟨[3,110],[]⟩,⟨[110],[35]⟩,⟨[110,112],[35]⟩,⟨[110,111,113],[]⟩,⟨[110,114],[]⟩,⟨[115],[]⟩,⟨[5,116],[]⟩,⟨[116],[41]⟩,⟨[116],[41]⟩,⟨[116,118,119],[41]⟩,⟨[116,117,120],[]⟩,⟨[116,121],[]⟩,⟨[122],[]⟩,⟨[7,123],[]⟩,⟨[123],[48]⟩,⟨[123,125],[48]⟩,⟨[123,124,126],[]⟩,⟨[123,127],[]⟩,⟨[128],[]⟩,⟨[9,129],[]⟩,⟨[129],[54]⟩,⟨[129,130,131],[]⟩,⟨[129,132],[]⟩,⟨[133],[]⟩,⟨[10,134],[]⟩,⟨[134,135],[]⟩,⟨[134,136],[]⟩,⟨[134,137],[]⟩,⟨[138],[]⟩,⟨[12,139],[]⟩,⟨[139,140],[]⟩,⟨[139,141],[]⟩,⟨[142],[]⟩,⟨[13,143],[]⟩,⟨[143,144],[]⟩,⟨[143,145],[]⟩,⟨[146],[]⟩,⟨[14,147],[]⟩,⟨[147,148],[]⟩,⟨[147,149],[]⟩,⟨[150],[]⟩]⟩)]⟩
def Yu:FT:=⟨[0,1,2,3,4,5,6,7,8,9,10,11,12,13,16,17,18,20,21,23,24,25,26,27,28,29,30,32,34],[(14,⟨[166,210],[⟨[2],[]⟩,⟨[109],[]⟩,⟨[110],[]⟩,⟨[4,111],[]⟩,⟨[111,112],[]⟩,⟨[111,113],[]⟩,⟨[114],[]⟩,⟨[6,115],[]⟩,⟨[115,116],[]⟩,⟨[115,117],[]⟩,⟨[118],[]⟩,⟨[8,119],[]⟩,⟨[119,120],[]⟩,⟨[119,121],[]⟩,⟨[122],[]⟩,⟨[12,123],[]⟩,⟨[123,124],[]⟩,⟨[123,125],[]⟩,⟨[126],[]⟩,⟨[16,127],[]⟩,⟨[127,128],[]⟩,⟨[127,129],[]⟩,⟨[130],[]⟩,⟨[20,131],[]⟩,⟨[131,132],[]⟩,⟨[131,133],[]⟩,⟨[134],[]⟩,⟨[23,135],[]⟩,⟨[135,136],[]⟩,⟨[135,137],[]⟩,⟨[138],[]⟩,⟨[25,139],[]⟩,⟨[139,140],[]⟩,⟨[139,141],[]⟩,⟨[142],[]⟩,⟨[27,143],[]⟩,⟨[143,144],[]⟩,⟨[143,145],[]⟩,⟨[146],[]⟩,⟨[30,147],[]⟩,⟨[147,148],[]⟩,⟨[147,149],[]⟩,⟨[150],[]⟩,⟨[32,151],[]⟩,⟨[151,152],[]⟩,⟨[151,153],[]⟩,⟨[154],[]⟩,⟨[34,155],[]⟩,⟨[155,156],[]⟩,⟨[155,157],[]⟩,⟨[158],[]⟩,⟨[1,159],[]⟩,⟨[159],[51]⟩,⟨[159,160,161],[]⟩,⟨[159,162],[]⟩,⟨[163],[]⟩,⟨[3,164],[]⟩,⟨[164],[56]⟩,⟨[164,165,166],[]⟩,⟨[164,167],[]⟩,⟨[168],[]⟩,⟨[5,169],[]⟩,⟨[169],[61]⟩,⟨[169,170,171],[]⟩,⟨[169,172],[]⟩,⟨[173],[]⟩,⟨[7,174],[]⟩,⟨[174,175],[]⟩,⟨[174,176],[]⟩,⟨[177],[]⟩,⟨[9,178],[]⟩,⟨[178,179],[]⟩,⟨[178,180],[]⟩,⟨[181],[]⟩,⟨[10,182],[]⟩,⟨[182,183],[]⟩,⟨[182,184],[]⟩,⟨[185],[]⟩,⟨[11,186],[]⟩,⟨[186,187],[]⟩,⟨[186,188],[]⟩,⟨[189],[]⟩,⟨[13,190],[]⟩,⟨[190,191],[]⟩,⟨[190,192],[]⟩,⟨[193],[]⟩,⟨[17,194],[]⟩,⟨[194],[86]⟩,⟨[194,195,196],[]⟩,⟨[194,197],[]⟩,⟨[198],[]⟩,⟨[18,199],[]⟩,⟨[199,200],[]⟩,⟨[199,201],[]⟩,⟨[202],[]⟩,⟨[21,203],[]⟩,⟨[203,204],[]⟩,⟨[203,205],[]⟩,⟨[206],[]⟩,⟨[24,207],[]⟩,⟨[207],[99]⟩,⟨[207,209],[99]⟩,⟨[207,208,210],[]⟩,⟨[207,211],[]⟩,⟨[212],[]⟩,⟨[26,213],[]⟩,⟨[213,214],[]⟩,⟨[213,215],[]⟩,⟨[216],[]⟩,⟨[28,217],[]⟩,⟨[217,218],[]⟩,⟨[217,219],[]⟩,⟨[217,220],[]⟩,⟨[221],[]⟩,⟨[29,222],[]⟩,⟨[222,223],[]⟩,⟨[222,224],[]⟩,⟨[225],[]⟩]⟩)]⟩
def Yv:FT:=⟨[0,1,2,3,4,5,6,7,8,9,10,11,12,13,14,28,52,65,104,130,144],[(6,⟨[],[⟨[3],[]⟩,⟨[31],[]⟩,⟨[7],[0,1]⟩,⟨[32,33],[]⟩,⟨[34],[]⟩,⟨[35],[]⟩,⟨[2],[0,1,2,3,4,5]⟩,⟨[37],[0,1,2,3,4,5]⟩,⟨[38],[0,1,2,3,4,5]⟩,⟨[36,39],[]⟩,⟨[40],[]⟩]⟩),(13,⟨[],[⟨[2],[]⟩,⟨[66],[]⟩,⟨[11],[0,1]⟩,⟨[67,68],[]⟩,⟨[69],[]⟩,⟨[70],[]⟩,⟨[3],[0,1,2,3,4,5]⟩,⟨[72],[0,1,2,3,4,5]⟩,⟨[7],[0,1,2,3,4,5,6,7]⟩,⟨[74],[0,1,2,3,4,5,6,7]⟩,⟨[73,75],[0,1,2,3,4,5]⟩,⟨[76],[0,1,2,3,4,5]⟩,⟨[77],[0,1,2,3,4,5]⟩,⟨[71,78],[]⟩,⟨[79],[]⟩]⟩),(14,⟨[],[⟨[3],[]⟩,⟨[80],[]⟩,⟨[7],[0,1]⟩,⟨[82],[0,1]⟩,⟨[81,83],[]⟩,⟨[84],[]⟩,⟨[85],[]⟩,⟨[86],[]⟩,⟨[2],[0,1,2,3,4,5,6,7]⟩,⟨[88],[0,1,2,3,4,5,6,7]⟩,⟨[11],[0,1,2,3,4,5,6,7,8,9]⟩,⟨[89,90],[0,1,2,3,4,5,6,7]⟩,⟨[91],[0,1,2,3,4,5,6,7]⟩,⟨[92],[0,1,2,3,4,5,6,7]⟩,⟨[87,93],[]⟩,⟨[10],[]⟩,⟨[94,95],[]⟩]⟩),(17,⟨[],[⟨[3],[]⟩,⟨[105],[]⟩,⟨[7],[0,1]⟩,⟨[107],[0,1]⟩,⟨[106,108],[]⟩,⟨[109],[]⟩,⟨[110],[]⟩,⟨[2],[0,1,2,3,4,5,6]⟩,⟨[112],[0,1,2,3,4,5,6]⟩,⟨[113],[0,1,2,3,4,5,6]⟩,⟨[114],[0,1,2,3,4,5,6]⟩,⟨[111,115],[]⟩,⟨[10],[]⟩,⟨[116,117],[]⟩]⟩),(21,⟨[138,140,142,143],[⟨[2],[]⟩,⟨[],[0]⟩,⟨[5],[0,1]⟩,⟨[138,139],[0]⟩,⟨[10],[0,1,2,3]⟩,⟨[141],[0,1,2,3]⟩,⟨[140,142],[0]⟩,⟨[137,143],[]⟩]⟩)]⟩
def Yw:FT:=⟨[0,1,2,3,4,5],[(2,⟨[],[⟨[2],[]⟩,⟨[10],[]⟩,⟨[3],[0,1]⟩,⟨[12],[0,1]⟩,⟨[13],[0,1]⟩,⟨[14],[0,1]⟩,⟨[5],[0,1,2,3,4,5]⟩,⟨[15,16],[0,1]⟩,⟨[2],[0,1,2,3,4,5,6,7]⟩,⟨[18],[0,1,2,3,4,5,6,7]⟩,⟨[17,19],[0,1]⟩,⟨[11,20],[]⟩,⟨[2],[0,1,2,3,4,5,6,7,8,9,10,11]⟩,⟨[22],[0,1,2,3,4,5,6,7,8,9,10,11]⟩,⟨[3],[0,1,2,3,4,5,6,7,8,9,10,11,12,13]⟩,⟨[24],[0,1,2,3,4,5,6,7,8,9,10,11,12,13]⟩,⟨[25],[0,1,2,3,4,5,6,7,8,9,10,11,12,13]⟩,⟨[26],[0,1,2,3,4,5,6,7,8,9,10,11,12,13]⟩,⟨[5],[0,1,2,3,4,5,6,7,8,9,10,11,12,13,14,15,16,17]⟩,⟨[27,28],[0,1,2,3,4,5,6,7,8,9,10,11,12,13]⟩,⟨[2],[0,1,2,3,4,5,6,7,8,9,10,11,12,13,14,15,16,17,18,19]⟩,⟨[30],[0,1,2,3,4,5,6,7,8,9,10,11,12,13,14,15,16,17,18,19]⟩,⟨[29,31],[0,1,2,3,4,5,6,7,8,9,10,11,12,13]⟩,⟨[23,32],[0,1,2,3,4,5,6,7,8,9,10,11]⟩,⟨[21,33],[]⟩,⟨[4,34],[]⟩]⟩)]⟩
def TS:FT:=⟨[0,1,2,4,5,6,7,15],[]⟩
def TT:FT:=⟨[0,1,2,3,4,5,10,48],[(4,⟨[],[⟨[3],[]⟩,⟨[13],[]⟩,⟨[2],[0,1]⟩,⟨[15],[0,1]⟩,⟨[5],[0,1,2,3]⟩,⟨[16,17],[0,1]⟩,⟨[18],[0,1]⟩,⟨[19],[0,1]⟩,⟨[20],[0,1]⟩,⟨[2],[0,1,2,3,4,5,6,7,8]⟩,⟨[22],[0,1,2,3,4,5,6,7,8]⟩,⟨[5],[0,1,2,3,4,5,6,7,8,9,10]⟩,⟨[23,24],[0,1,2,3,4,5,6,7,8]⟩,⟨[25],[0,1,2,3,4,5,6,7,8]⟩,⟨[26],[0,1,2,3,4,5,6,7,8]⟩,⟨[27],[0,1,2,3,4,5,6,7,8]⟩,⟨[14,21,28],[]⟩,⟨[29],[]⟩,⟨[3,30],[]⟩,⟨[30,31],[]⟩,⟨[2,30],[18,19]⟩,⟨[30,33],[18,19]⟩,⟨[5,30],[18,19,20,21]⟩,⟨[30,34,35],[18,19]⟩,⟨[30,36],[18,19]⟩,⟨[30,37],[18,19]⟩,⟨[30,38],[18,19]⟩,⟨[2,30],[18,19,20,21,22,23,24,25,26]⟩,⟨[30,40],[18,19,20,21,22,23,24,25,26]⟩,⟨[5,30],[18,19,20,21,22,23,24,25,26,27,28]⟩,⟨[30,41,42],[18,19,20,21,22,23,24,25,26]⟩,⟨[30,43],[18,19,20,21,22,23,24,25,26]⟩,⟨[30,44],[18,19,20,21,22,23,24,25,26]⟩,⟨[30,45],[18,19,20,21,22,23,24,25,26]⟩,⟨[30,32,39,46],[]⟩,⟨[30,47],[]⟩]⟩)]⟩
def TU:FT:=⟨[0,1,2,3,6,7,8,22,28],[]⟩
def TV:FT:=⟨[0,1,2,4],[(1,⟨[],[⟨[2],[]⟩,⟨[5],[]⟩,⟨[1],[0,1]⟩,⟨[2],[0,1,2]⟩,⟨[8],[0,1,2]⟩,⟨[2],[0,1,2,3,4]⟩,⟨[10],[0,1,2,3,4]⟩,⟨[9,11],[0,1,2]⟩,⟨[12],[0,1,2]⟩,⟨[7,13],[0,1]⟩,⟨[6,14],[]⟩,⟨[15],[]⟩]⟩)]⟩
def TW:FT:=⟨[0,1,2,4,5,6,7,8,18],[(1,⟨[],[⟨[2],[]⟩,⟨[2],[0]⟩,⟨[1],[0,1]⟩,⟨[11,12],[0]⟩,⟨[10,13],[]⟩,⟨[14],[]⟩,⟨[9],[]⟩,⟨[9],[6]⟩,⟨[15],[7]⟩,⟨[16],[]⟩]⟩)]⟩
def TX:FT:=⟨[0,1,2,3,4,5,6,7,8,9,10,14,19,43,45,50,56,61,82,90],[]⟩
def TY:FT:=⟨[0,1,2,6],[]⟩
def TZ:FT:=⟨[0,1,4,7,11],[]⟩
def T0:FT:=⟨[0,1,2,3,6],[]⟩
def T1:FT:=⟨[0,1,2,4],[]⟩
def T2:FT:=⟨[0,1,2,3,4,25,27],[]⟩
def T3:FT:=⟨[0,1,2,3,4,5,6,7,8,9,10,22,41,43,49,70,78,85,102,129],[(24,⟨[],[⟨[9],[]⟩,⟨[104],[]⟩,⟨[105],[]⟩,⟨[10,106],[]⟩,⟨[106,107],[]⟩,⟨[1,106],[3,4]⟩,⟨[106,109],[3,4]⟩,⟨[9,106],[3,4,5,6]⟩,⟨[106,111],[3,4,5,6]⟩,⟨[106,110,112],[3,4]⟩,⟨[106,113],[3,4]⟩,⟨[106,114],[3,4]⟩,⟨[106,108,115],[]⟩,⟨[106,116],[]⟩,⟨[10,117],[]⟩,⟨[117,118],[]⟩,⟨[1,117],[14,15]⟩,⟨[117,120],[14,15]⟩,⟨[9,117],[14,15,16,17]⟩,⟨[117,122],[14,15,16,17]⟩,⟨[117,121,123],[14,15]⟩,⟨[117,124],[14,15]⟩,⟨[117,125],[14,15]⟩,⟨[117,119,126],[]⟩,⟨[106,117,127],[]⟩,⟨[106,128],[]⟩]⟩)]⟩
def T4:FT:=⟨[0,1,2,6],[]⟩
def T5:FT:=⟨[0,1,2,3,4,5,22,29,38],[(1,⟨[18],[⟨[1],[]⟩,⟨[6],[]⟩,⟨[7],[]⟩,⟨[1],[0,1,2]⟩,⟨[9],[0,1,2]⟩,⟨[10],[]⟩,⟨[1],[0,1,2,3,4,5]⟩,⟨[12],[0,1,2,3,4,5]⟩,⟨[13],[]⟩,⟨[1],[0,1,2,3,4,5,6,7,8]⟩,⟨[15],[0,1,2,3,4,5,6,7,8]⟩,⟨[16],[]⟩,⟨[8,11,14,17],[]⟩,⟨[18],[]⟩]⟩)]⟩
def T6:FT:=⟨[0,1],[]⟩
def T7:FT:=⟨[0],[]⟩
def T8:FT:=⟨[0],[]⟩
def T9:FT:=⟨[0,1,2,3,5,6,7,8,9,10,11,18,22,36],[]⟩
def Ua:FT:=⟨[0],[]⟩
def Ub:FT:=⟨[0,1,4],[]⟩
def Uc:FT:=⟨[0,1,2,4,5,6,7,8,10,18,25,41,42,43,44],[]⟩
def Ud:FT:=⟨[0,1,2,4,5,6,7,8,9,10,11,12,13,14,22,32,45,46,47,55,61],[(4,⟨[8],[⟨[7],[]⟩,⟨[24],[]⟩,⟨[2],[0,1]⟩,⟨[26],[0,1]⟩,⟨[27],[0,1]⟩,⟨[28],[0,1]⟩,⟨[],[0,1,2,3,4,5]⟩,⟨[8,25],[2,3,4,5]⟩,⟨[29],[]⟩]⟩)]⟩
def Ue:FT:=⟨[0,1,2,4,5,6,7,8,9,10,11,12,14,15,22,26,34,38,39,40,44,45,46,65,77,84],[]⟩
def Uf:FT:=⟨[0,1,4,5,10,14,25],[(6,⟨[],[⟨[0],[]⟩,⟨[5],[0]⟩,⟨[17,18],[]⟩,⟨[19],[]⟩,⟨[1],[0,1,2,3]⟩,⟨[5],[0,1,2,3,4]⟩,⟨[21,22],[0,1,2,3]⟩,⟨[23],[0,1,2,3]⟩,⟨[20,24],[]⟩]⟩)]⟩
def Ug:FT:=⟨[0,1,4,5,10,14,25],[(6,⟨[],[⟨[0],[]⟩,⟨[5],[0]⟩,⟨[17,18],[]⟩,⟨[19],[]⟩,⟨[1],[0,1,2,3]⟩,⟨[5],[0,1,2,3,4]⟩,⟨[21,22],[0,1,2,3]⟩,⟨[23],[0,1,2,3]⟩,⟨[20,24],[]⟩]⟩)]⟩
def Uh:FT:=⟨[0,1,4],[]⟩
def Ui:FT:=⟨[0,1,4,5,10,14,25],[(6,⟨[],[⟨[0],[]⟩,⟨[5],[0]⟩,⟨[17,18],[]⟩,⟨[19],[]⟩,⟨[1],[0,1,2,3]⟩,⟨[5],[0,1,2,3,4]⟩,⟨[21,22],[0,1,2,3]⟩,⟨[23],[0,1,2,3]⟩,⟨[20,24],[]⟩]⟩)]⟩
def Uj:FT:=⟨[0,1,2,3,6,7,8,9,10,11,18,23,38],[]⟩
def Qb:FT:=⟨[0,2,3,4,10],[(5,⟨[22,26,39],[⟨[3],[]⟩,⟨[4],[0]⟩,⟨[20,21],[]⟩,⟨[],[0,1,2]⟩,⟨[],[0,1,2,3]⟩,⟨[],[0,1,2,3,4]⟩,⟨[24,25],[0,1,2,3]⟩,⟨[22,23,26],[]⟩,⟨[],[0,1,2,3,4,5,6,7]⟩,⟨[],[0,1,2,4,5,6,7,8]⟩,⟨[],[0,1,2,4,5,6,7,8]⟩,⟨[],[0,1,2,4,5,6,7,8]⟩,⟨[],[0,1,2,4,5,6,7,8]⟩,⟨[29,30,31,32],[0,1,2,4,5,6,7,8]⟩,⟨[],[0,1,2,4,5,6,7,8,13]⟩,⟨[],[0,1,2,4,5,6,7,8,13]⟩,⟨[],[0,1,2,4,5,6,7,8,13]⟩,⟨[],[0,1,2,4,5,6,7,8,13]⟩,⟨[34,35,36,37],[0,1,2,4,5,6,7,8,13]⟩,⟨[33,38],[0,1,2,4,5,6,7,8]⟩,⟨[27,28,39],[]⟩,⟨[2,40],[]⟩]⟩)]⟩
def Uk:FT:=⟨[0,1,2,4,5,6,7,8,18],[]⟩
def Ul:FT:=⟨[0,1,2,4,5,7,8,22],[(5,⟨[],[⟨[8],[]⟩,⟨[25],[]⟩,⟨[26],[]⟩,⟨[27],[]⟩,⟨[1],[0,1,2,3]⟩,⟨[28,29],[]⟩,⟨[30],[]⟩,⟨[31],[]⟩,⟨[32],[]⟩,⟨[8],[0,1,2,3,4,5,6,7,8]⟩,⟨[34],[0,1,2,3,4,5,6,7,8]⟩,⟨[35],[0,1,2,3,4,5,6,7,8]⟩,⟨[36],[0,1,2,3,4,5,6,7,8]⟩,⟨[1],[0,1,2,3,4,5,6,7,8,9,10,11,12]⟩,⟨[37,38],[0,1,2,3,4,5,6,7,8]⟩,⟨[39],[0,1,2,3,4,5,6,7,8]⟩,⟨[40],[0,1,2,3,4,5,6,7,8]⟩,⟨[41],[]⟩,⟨[33,42],[]⟩,⟨[4,43],[]⟩,⟨[],[]⟩]⟩)]⟩
def Um:FT:=⟨[0,1,2,3,6,7,8,9,16],[]⟩
def Un:FT:=⟨[0,1,2,3,6,7,8,9,10,22],[(1,⟨[16],[⟨[3],[]⟩,⟨[3],[0]⟩,⟨[2],[0,1]⟩,⟨[1],[0,1,2]⟩,⟨[15],[0,1,2]⟩,⟨[13,14,16],[0]⟩,⟨[12,17],[]⟩,⟨[18],[]⟩,⟨[11],[]⟩,⟨[11],[8]⟩,⟨[19],[9]⟩,⟨[20],[]⟩]⟩)]⟩
def Uo:FT:=⟨[0,1,2,3,4,7,8,9,10,11,12,13,14,15,26,30,74,75,76,77,93],[(1,⟨[21],[⟨[4],[]⟩,⟨[4],[0]⟩,⟨[2],[0,1]⟩,⟨[1],[0,1,2]⟩,⟨[20],[0,1,2]⟩,⟨[18,19,21],[0]⟩,⟨[17,22],[]⟩,⟨[23],[]⟩,⟨[16],[]⟩,⟨[16],[8]⟩,⟨[24],[9]⟩,⟨[25],[]⟩]⟩),(7,⟨[55,60],[⟨[12],[]⟩,⟨[44],[]⟩,⟨[12],[0,1]⟩,⟨[46],[0,1]⟩,⟨[12],[0,1,2,3]⟩,⟨[48],[0,1,2,3]⟩,⟨[12],[0,1,2,3,4,5]⟩,⟨[50],[0,1,2,3,4,5]⟩,⟨[4],[0,1,2,3,4,5,6,7]⟩,⟨[52],[0,1,2,3,4,5,6,7]⟩,⟨[53],[0,1,2,3,4,5,6,7]⟩,⟨[45,47,49,51,54],[]⟩,⟨[11],[0,1,2,3,4,5,6,7,8,9,10,11]⟩,⟨[56],[0,1,2,3,4,5,6,7,8,9,10,11]⟩,⟨[57],[0,1,2,3,4,5,6,7,8,9,10,11]⟩,⟨[58],[0,1,2,3,4,5,6,7,8,9,10,11]⟩,⟨[55,59],[]⟩,⟨[60],[]⟩]⟩),(11,⟨[92],[⟨[13],[]⟩,⟨[14],[0]⟩,⟨[81,82],[]⟩,⟨[83],[]⟩,⟨[84],[]⟩,⟨[13],[0,1,2,3,4]⟩,⟨[14],[0,1,2,3,4,5]⟩,⟨[86,87],[0,1,2,3,4]⟩,⟨[88],[0,1,2,3,4]⟩,⟨[89],[0,1,2,3,4]⟩,⟨[15],[0,1,2,3,4,5,6,7,8,9]⟩,⟨[91],[0,1,2,3,4,5,6,7,8,9]⟩,⟨[85,90,92],[]⟩]⟩)]⟩
def Up:FT:=⟨[0],[]⟩
def Uq:FT:=⟨[0,1,2,3,6,7,8,22,31],[]⟩
def Ur:FT:=⟨[0,1,2,3,4,5,6,20,33],[]⟩
def Us:FT:=⟨[0,1,4],[]⟩
def Ut:FT:=⟨[0,1,2,3,4],[]⟩
def Uu:FT:=⟨[0,1,2,3,4,6],[(1,⟨[],[⟨[3],[]⟩,⟨[7],[]⟩,⟨[2],[0,1]⟩,⟨[8,9],[]⟩,⟨[10],[]⟩,⟨[11],[]⟩,⟨[4],[0,1,2,3,4,5]⟩,⟨[13],[0,1,2,3,4,5]⟩,⟨[2],[0,1,2,3,4,5,6,7]⟩,⟨[14,15],[0,1,2,3,4,5]⟩,⟨[12,16],[]⟩,⟨[17],[]⟩]⟩)]⟩
def Uv:FT:=⟨[0,1,2,4],[(1,⟨[],[⟨[2],[]⟩,⟨[5],[]⟩,⟨[1],[0,1]⟩,⟨[2],[0,1,2]⟩,⟨[8],[0,1,2]⟩,⟨[2],[0,1,2,3,4]⟩,⟨[10],[0,1,2,3,4]⟩,⟨[9,11],[0,1,2]⟩,⟨[12],[0,1,2]⟩,⟨[7,13],[0,1]⟩,⟨[6,14],[]⟩,⟨[15],[]⟩]⟩)]⟩
def Uw:FT:=⟨[0,1,2,3,4,7,8,9,10,21,33,35],[(4,⟨[],[⟨[10],[]⟩,⟨[22],[]⟩,⟨[23],[]⟩,⟨[4,24],[]⟩,⟨[24,25],[]⟩,⟨[2,24],[3,4]⟩,⟨[24,26,27],[]⟩,⟨[24,28],[]⟩,⟨[24,29],[]⟩,⟨[7,24],[3,4,5,6,7,8]⟩,⟨[24,30,31],[]⟩,⟨[24,32],[]⟩]⟩),(8,⟨[],[⟨[4],[]⟩,⟨[37],[]⟩,⟨[2],[0,1]⟩,⟨[38,39],[]⟩,⟨[40],[]⟩,⟨[41],[]⟩,⟨[7],[0,1,2,3,4,5]⟩,⟨[42,43],[]⟩,⟨[44],[]⟩,⟨[45],[]⟩,⟨[],[]⟩]⟩)]⟩
def Ux:FT:=⟨[0,1,2,4,6],[]⟩
def Qc:FT:=⟨[0,1,2,4,5,6,8],[]⟩
def Qd:FT:=⟨[0,1,2,3,5,7,8,15],[]⟩
def Uy:FT:=⟨[0,1,2,3,4,5,6,7,8,9,10,11,16,20,21,22,23,27,33,46,53,54,55,56,60,72,88,107,112,118,125,126,127,128,132,172],[]⟩
def Uz:FT:=⟨[0,1,2,4,5,6,7,8,9,10,12,20,21,22,23,39],[(10,⟨[46,47],[⟨[6],[]⟩,⟨[6],[0]⟩,⟨[41],[0]⟩,⟨[42],[0]⟩,⟨[43],[0]⟩,⟨[9],[0,1,2,3,4]⟩,⟨[45],[0,1,2,3,4]⟩,⟨[44,46],[0]⟩,⟨[40],[]⟩,⟨[48],[]⟩,⟨[47,49],[]⟩]⟩),(11,⟨[],[⟨[6],[]⟩,⟨[50],[]⟩,⟨[51],[]⟩,⟨[52],[]⟩,⟨[7],[0,1,2,3]⟩,⟨[8],[0,1,2,3,4]⟩,⟨[55],[0,1,2,3,4]⟩,⟨[53,54,56],[]⟩]⟩)]⟩
def UA:FT:=⟨[0,1,4,5,6,7,8,9,19,20,21,25,36,44,60],[]⟩
def UB:FT:=⟨[0,1,2,3,6,9,16,20,27],[]⟩
def UC:FT:=⟨[0,1,4,5,6,7,8,13,14,15,16,30],[]⟩
def UD:FT:=⟨[0,1,2,4],[]⟩
def UE:FT:=⟨[0,2,3,7,11,29,45],[(8,⟨[],[⟨[3],[]⟩,⟨[30],[]⟩,⟨[31],[]⟩,⟨[0,32],[]⟩,⟨[3,32],[3]⟩,⟨[32,33,34],[]⟩,⟨[32,35],[]⟩,⟨[32,36],[]⟩,⟨[0,32],[3,4,5,6,7]⟩,⟨[3,32],[3,4,5,6,7,8]⟩,⟨[32,39],[3,4,5,6,7,8]⟩,⟨[32,38,40],[3,4,5,6,7]⟩,⟨[32,41],[3,4,5,6,7]⟩,⟨[32,42],[3,4,5,6,7]⟩,⟨[32,37,43],[]⟩,⟨[32,44],[]⟩]⟩)]⟩
def UF:FT:=⟨[0,1,2,3,4,9,14,23,34],[]⟩
def UG:FT:=⟨[0,2,3,7,11,23,45],[]⟩
def UH:FT:=⟨[0,1,4,5,9,17],[]⟩
def UI:FT:=⟨[0,1,2,6,7,8,12,34,45],[(7,⟨[],[⟨[0],[]⟩,⟨[8],[0]⟩,⟨[35,36],[]⟩,⟨[37],[]⟩,⟨[38],[]⟩,⟨[0],[0,1,2,3,4]⟩,⟨[8],[0,1,2,3,4,5]⟩,⟨[40,41],[0,1,2,3,4]⟩,⟨[42],[0,1,2,3,4]⟩,⟨[43],[0,1,2,3,4]⟩,⟨[39,44],[]⟩]⟩)]⟩
def UJ:FT:=⟨[0,1,2,3,4,28,34],[(1,⟨[],[⟨[1],[]⟩,⟨[5],[]⟩,⟨[6],[]⟩,⟨[1],[0,1,2]⟩,⟨[8],[0,1,2]⟩,⟨[9],[]⟩,⟨[7],[]⟩,⟨[10],[]⟩]⟩)]⟩
def UK:FT:=⟨[0,1,2,3,4,6],[]⟩
def Qe:FT:=⟨[0,1,2,3,5,8,9,10,11,13,15,16,17,22,23,24,25,37,38,39,40,71,110],[(9,⟨[14],[⟨[0],[]⟩,⟨[13],[0]⟩,⟨[45],[0]⟩,⟨[44],[1,2]⟩,⟨[47],[1,2]⟩,⟨[46,48],[]⟩,⟨[49],[]⟩,⟨[50],[]⟩,⟨[51],[]⟩,⟨[43],[]⟩,⟨[43],[9]⟩,⟨[],[0,1,2,3,4,5,6,7,8,9,10]⟩,⟨[14,52],[10]⟩,⟨[53],[]⟩]⟩),(11,⟨[16],[⟨[0],[]⟩,⟨[13],[0]⟩,⟨[74],[0]⟩,⟨[73],[1,2]⟩,⟨[76],[1,2]⟩,⟨[75,77],[]⟩,⟨[78],[]⟩,⟨[5],[0,1,2,3,4,5,6]⟩,⟨[13],[0,1,2,3,4,5,6,7]⟩,⟨[79,80,81],[]⟩,⟨[82],[]⟩,⟨[72],[]⟩,⟨[72],[11]⟩,⟨[],[0,1,2,3,4,5,6,7,8,9,10,11,12]⟩,⟨[16,83],[12]⟩,⟨[84],[]⟩]⟩),(12,⟨[],[⟨[16],[]⟩,⟨[85],[]⟩,⟨[13],[0,1]⟩,⟨[87],[0,1]⟩,⟨[8,88],[0,1]⟩,⟨[89],[0,1]⟩,⟨[90],[0,1]⟩,⟨[86,91],[]⟩,⟨[16],[0,1,2,3,4,5,6,7]⟩,⟨[93],[0,1,2,3,4,5,6,7]⟩,⟨[13],[0,1,2,3,4,5,6,7,8,9]⟩,⟨[95],[0,1,2,3,4,5,6,7,8,9]⟩,⟨[8,96],[0,1,2,3,4,5,6,7,8,9]⟩,⟨[97],[0,1,2,3,4,5,6,7,8,9]⟩,⟨[98],[0,1,2,3,4,5,6,7,8,9]⟩,⟨[94,99],[0,1,2,3,4,5,6,7]⟩,⟨[92,100],[]⟩,⟨[16,101],[]⟩]⟩)]⟩
def LZ:FT:=⟨[0,2,4],[]⟩
def UL:FT:=⟨[0,2,4,6,10,11,12,13,40],[(4,⟨[],[⟨[2],[]⟩,⟨[0],[0]⟩,⟨[17],[0]⟩,⟨[18],[0]⟩,⟨[19],[0]⟩,⟨[20],[0]⟩,⟨[21],[0]⟩,⟨[22],[0]⟩,⟨[4],[0,1,2,3,4,5,6,7]⟩,⟨[24],[0,1,2,3,4,5,6,7]⟩,⟨[23,25],[0]⟩,⟨[26],[0]⟩,⟨[16,27],[]⟩,⟨[28],[]⟩]⟩),(5,⟨[5],[⟨[0],[]⟩,⟨[4],[0]⟩,⟨[31],[0]⟩,⟨[30],[1,2]⟩,⟨[33],[1,2]⟩,⟨[32,34],[]⟩,⟨[35],[]⟩,⟨[36],[]⟩,⟨[37],[]⟩,⟨[29],[]⟩,⟨[29],[9]⟩,⟨[],[0,1,2,3,4,5,6,7,8,9,10]⟩,⟨[5,38],[10]⟩,⟨[39],[]⟩]⟩)]⟩
def I3:FT:=⟨[0,1,2,3,4,5,9,10,11,12,13,15,24,31,45],[(7,⟨[],[⟨[5],[]⟩,⟨[0],[0]⟩,⟨[11],[0,1]⟩,⟨[35],[0,1]⟩,⟨[34,36],[0]⟩,⟨[11],[0,1,2,3,4]⟩,⟨[38],[0,1,2,3,4]⟩,⟨[2],[0,1,2,3,4,5,6]⟩,⟨[40],[0,1,2,3,4,5,6]⟩,⟨[33,37,39,41],[]⟩,⟨[42],[]⟩,⟨[32],[]⟩,⟨[32],[11]⟩,⟨[43],[12]⟩,⟨[44],[]⟩]⟩)]⟩
def Qf:FT:=⟨[0,1,2,3,4,5,6,8,19,20,39],[(4,⟨[7],[⟨[2],[]⟩,⟨[6],[0]⟩,⟨[3],[0,1]⟩,⟨[5],[0,1,2]⟩,⟨[24,25],[0,1]⟩,⟨[3],[0,1,2,3,4]⟩,⟨[2],[0,1,2,3,4,5]⟩,⟨[28],[0,1,2,3,4,5]⟩,⟨[29],[0,1,2,3,4,5]⟩,⟨[30],[0,1,2,3,4,5]⟩,⟨[31],[0,1,2,3,4,5]⟩,⟨[32],[0,1,2,3,4,5]⟩,⟨[33],[0,1,2,3,4,5]⟩,⟨[27,34],[0,1,2,3,4]⟩,⟨[22,23,26,35],[]⟩,⟨[36],[]⟩,⟨[21],[]⟩,⟨[21],[16]⟩,⟨[],[0,1,2,3,4,5,6,7,8,9,10,11,12,13,14,15,16,17]⟩,⟨[7,37],[17]⟩,⟨[38],[]⟩]⟩)]⟩
def UM:FT:=⟨[0,1,4,5],[(1,⟨[],[⟨[0],[]⟩,⟨[8],[]⟩,⟨[9],[]⟩,⟨[10],[]⟩,⟨[11],[]⟩,⟨[0],[0,1,2,3,4]⟩,⟨[13],[0,1,2,3,4]⟩,⟨[14],[0,1,2,3,4]⟩,⟨[15],[0,1,2,3,4]⟩,⟨[16],[0,1,2,3,4]⟩,⟨[1],[0,1,2,3,4,5,6,7,8,9]⟩,⟨[12,17,18],[]⟩,⟨[19],[]⟩,⟨[7],[]⟩,⟨[7],[13]⟩,⟨[20],[14]⟩,⟨[21],[]⟩]⟩)]⟩
def Qg:FT:=⟨[0,1,2,3,8,9,11,12,14,15,16,17,18,19,33,43,44,45],[(8,⟨[],[⟨[3],[]⟩,⟨[12,34],[]⟩,⟨[35],[]⟩,⟨[36],[]⟩,⟨[3],[0,1,2,3]⟩,⟨[12,38],[0,1,2,3]⟩,⟨[39],[0,1,2,3]⟩,⟨[40],[0,1,2,3]⟩,⟨[37,41],[]⟩,⟨[42],[]⟩,⟨[],[0,1,2,3,4,5,6,7,8,9]⟩]⟩)]⟩
def UN:FT:=⟨[0,1,2,4,5,12,17],[(6,⟨[],[⟨[2],[]⟩,⟨[27],[]⟩,⟨[28],[]⟩,⟨[1],[0,1,2]⟩,⟨[29,30],[]⟩,⟨[31],[]⟩,⟨[2],[0,1,2,3,4,5]⟩,⟨[33],[0,1,2,3,4,5]⟩,⟨[34],[0,1,2,3,4,5]⟩,⟨[32,35],[]⟩,⟨[4,36],[]⟩,⟨[],[]⟩]⟩)]⟩
def Qh:FT:=⟨[0,1,2,3,4,6],[]⟩
def UO:FT:=⟨[0,1,2,3,4,5,6,7,12,13,24],[(7,⟨[],[⟨[4],[]⟩,⟨[5],[0]⟩,⟨[4,37],[1]⟩,⟨[5,38],[]⟩]⟩)]⟩
def Qi:FT:=⟨[0,1,2,3,4,5,6,7,8,11,12,13,17],[(7,⟨[],[⟨[4],[]⟩,⟨[18],[]⟩,⟨[5],[0,1]⟩,⟨[4,19],[2]⟩,⟨[5,20],[]⟩,⟨[6],[]⟩]⟩),(9,⟨[],[⟨[5],[]⟩,⟨[4],[0]⟩,⟨[5,22],[]⟩,⟨[6],[]⟩]⟩)]⟩
def UP:FT:=⟨[0,1,3,4,5,6,7,10,11,12,13,20],[]⟩
def UQ:FT:=⟨[0,1,4],[]⟩
def UR:FT:=⟨[0,1,2,4,7],[]⟩
def US:FT:=⟨[0,2],[]⟩
def UT:FT:=⟨[0,1,2,4,5,7,12,13,14],[(7,⟨[],[⟨[5],[]⟩,⟨[21],[]⟩,⟨[2],[0,1]⟩,⟨[23],[]⟩,⟨[22,24],[]⟩,⟨[25],[]⟩]⟩)]⟩
def UU:FT:=⟨[0,1,3,4,6,30,31,32,33],[(1,⟨[],[⟨[3],[]⟩,⟨[7],[]⟩,⟨[8],[]⟩,⟨[3],[0,1,2]⟩,⟨[10],[0,1,2]⟩,⟨[11],[0,1,2]⟩,⟨[3],[0,1,2,3,4,5]⟩,⟨[13],[0,1,2,3,4,5]⟩,⟨[14],[0,1,2,3,4,5]⟩,⟨[3],[0,1,2,3,4,5,6,7,8]⟩,⟨[16],[0,1,2,3,4,5,6,7,8]⟩,⟨[17],[0,1,2,3,4,5,6,7,8]⟩,⟨[0],[0,1,2,3,4,5,6,7,8,9,10,11]⟩,⟨[19],[0,1,2,3,4,5,6,7,8,9,10,11]⟩,⟨[20],[0,1,2,3,4,5,6,7,8,9,10,11]⟩,⟨[21],[0,1,2,3,4,5,6,7,8,9,10,11]⟩,⟨[22],[0,1,2,3,4,5,6,7,8,9,10,11]⟩,⟨[23],[0,1,2,3,4,5,6,7,8,9,10,11]⟩,⟨[24],[0,1,2,3,4,5,6,7,8,9,10,11]⟩,⟨[9,12,15,18,25],[]⟩,⟨[4,26],[]⟩]⟩)]⟩
def UW:FT:=⟨[0,1,2,4,6,7,8,9,10,11,31,37,38,39,40,46,69],[(1,⟨[],[⟨[0],[]⟩,⟨[12],[]⟩,⟨[13],[]⟩,⟨[14],[]⟩,⟨[15],[]⟩,⟨[4],[0,1,2,3,4]⟩,⟨[16,17],[]⟩,⟨[2],[0,1,2,3,4,5,6]⟩,⟨[18,19],[]⟩,⟨[20],[]⟩]⟩),(2,⟨[],[⟨[8],[]⟩,⟨[21],[]⟩,⟨[4],[0,1]⟩,⟨[23],[0,1]⟩,⟨[0],[0,1,2,3]⟩,⟨[4],[0,1,2,3,4]⟩,⟨[2],[0,1,2,3,4,5]⟩,⟨[25,26,27],[0,1,2,3]⟩,⟨[28],[0,1,2,3]⟩,⟨[24,29],[0,1]⟩,⟨[22,30],[]⟩]⟩),(10,⟨[],[⟨[4],[]⟩,⟨[51],[]⟩,⟨[10],[0,1]⟩,⟨[52,53],[]⟩,⟨[54],[]⟩,⟨[55],[]⟩,⟨[8],[0,1,2,3,4,5]⟩,⟨[0],[0,1,2,3,4,5,6]⟩,⟨[58],[0,1,2,3,4,5,6]⟩,⟨[59],[0,1,2,3,4,5,6]⟩,⟨[60],[0,1,2,3,4,5,6]⟩,⟨[61],[0,1,2,3,4,5,6]⟩,⟨[62],[0,1,2,3,4,5,6]⟩,⟨[9],[0,1,2,3,4,5,6,7,8,9,10,11,12]⟩,⟨[2],[0,1,2,3,4,5,6,7,8,9,10,11,12,13]⟩,⟨[64,65],[0,1,2,3,4,5,6,7,8,9,10,11,12]⟩,⟨[63,66],[0,1,2,3,4,5,6]⟩,⟨[57,67],[0,1,2,3,4,5]⟩,⟨[56,68],[]⟩]⟩)]⟩
def UX:FT:=⟨[0,1,2,4,6,7,8,9],[]⟩
def Qj:FT:=⟨[0,1,2,3,4,5,6,7,8,11,12,13,17],[(7,⟨[],[⟨[4],[]⟩,⟨[18],[]⟩,⟨[5],[0,1]⟩,⟨[4,19],[2]⟩,⟨[5,20],[]⟩,⟨[6],[]⟩]⟩),(9,⟨[],[⟨[5],[]⟩,⟨[4],[0]⟩,⟨[5,22],[]⟩,⟨[6],[]⟩]⟩)]⟩
def UY:FT:=⟨[0,1,3,4,6,7,8,9,10,19],[]⟩
def UZ:FT:=⟨[0,1,4,7],[]⟩
def U0:FT:=⟨[0,1,2,3,6,7,23],[]⟩
def U1:FT:=⟨[0,1,2,3,17],[(2,⟨[],[⟨[3],[]⟩,⟨[4],[]⟩,⟨[1],[0,1]⟩,⟨[5,6],[]⟩,⟨[7],[]⟩,⟨[8],[]⟩,⟨[3,9],[]⟩,⟨[9,10],[]⟩,⟨[9,11],[]⟩,⟨[9,12],[]⟩,⟨[1,9],[6,7,8,9]⟩,⟨[9,13,14],[]⟩,⟨[9,15],[]⟩,⟨[9,16],[]⟩]⟩)]⟩
def U2:FT:=⟨[0,1,2,3,4],[]⟩
def U3:FT:=⟨[0,1,2,4,5,8,9,22,24,29,39],[(9,⟨[],[⟨[2],[]⟩,⟨[1],[0]⟩,⟨[9],[0,1]⟩,⟨[33,34],[0]⟩,⟨[35],[0]⟩,⟨[32,36],[]⟩,⟨[37],[]⟩]⟩)]⟩
def Ql:FT:=⟨[0,1,2,4,5,6,7,8,16,20,27,28,29,30,43],[(10,⟨[],[⟨[4],[]⟩,⟨[7],[0]⟩,⟨[4],[0,1]⟩,⟨[36],[0,1]⟩,⟨[37],[0,1]⟩,⟨[34],[1,2,3,4]⟩,⟨[39],[1,2,3,4]⟩,⟨[35,40],[]⟩,⟨[38,41],[]⟩]⟩),(12,⟨[],[⟨[4],[]⟩,⟨[7],[0]⟩,⟨[4],[0,1]⟩,⟨[46],[0,1]⟩,⟨[47],[0,1]⟩,⟨[44],[1,2,3,4]⟩,⟨[49],[1,2,3,4]⟩,⟨[45,50],[]⟩,⟨[48,51],[]⟩]⟩)]⟩
def U4:FT:=⟨[0,1,2],[]⟩
def U5:FT:=⟨[0,1,2,3,16,43],[]⟩
def U6:FT:=⟨[0,2,3,5,7,8,9,11,18],[]⟩
def U7:FT:=⟨[0,1,4],[]⟩
def O0:FT:=⟨[0,1,2,3],[]⟩
def O1:FT:=⟨[0,1,2,3,5,6,43,52,63,64,65,66,69,83],[]⟩
def O2:FT:=⟨[0,1,2,3],[]⟩
def O3:FT:=⟨[0,2],[]⟩
def O4:FT:=⟨[0,1,2,6],[]⟩
def O5:FT:=⟨[0,1,2,3,6,7,37],[]⟩
def O6:FT:=⟨[0,2,3,4,5,9,20,52],[(8,⟨[],[⟨[5],[]⟩,⟨[3],[0]⟩,⟨[23,24],[]⟩,⟨[25],[]⟩,⟨[5,26],[]⟩,⟨[4,26],[4]⟩,⟨[26,27,28],[]⟩,⟨[26,29],[]⟩,⟨[30],[]⟩,⟨[0,31],[]⟩,⟨[4,31],[9]⟩,⟨[31,32,33],[]⟩,⟨[31,34],[]⟩,⟨[0,31],[9,10,11,12]⟩,⟨[3,31],[9,10,11,12,13]⟩,⟨[31,36,37],[9,10,11,12]⟩,⟨[31,38],[9,10,11,12]⟩,⟨[31,35,39],[]⟩,⟨[0,31],[9,10,11,12,13,14,15,16,17]⟩,⟨[5,31],[9,10,11,12,13,14,15,16,17,18]⟩,⟨[31,41,42],[9,10,11,12,13,14,15,16,17]⟩,⟨[31,43],[9,10,11,12,13,14,15,16,17]⟩,⟨[0,31],[9,10,11,12,13,14,15,16,17,18,19,20,21]⟩,⟨[3,31],[9,10,11,12,13,14,15,16,17,18,19,20,21,22]⟩,⟨[31,45,46],[9,10,11,12,13,14,15,16,17,18,19,20,21]⟩,⟨[31,47],[9,10,11,12,13,14,15,16,17,18,19,20,21]⟩,⟨[31,44,48],[]⟩,⟨[31,40,49],[]⟩,⟨[31,50],[]⟩,⟨[31,51],[]⟩]⟩)]⟩
def O7:FT:=⟨[0,1,2,3,4,8,13,32,46],[(9,⟨[],[⟨[3],[]⟩,⟨[33],[]⟩,⟨[34],[]⟩,⟨[4,35],[]⟩,⟨[35,36],[]⟩,⟨[1,35],[3,4]⟩,⟨[35,38],[3,4]⟩,⟨[3,35],[3,4,5,6]⟩,⟨[35,40],[3,4,5,6]⟩,⟨[35,39,41],[3,4]⟩,⟨[35,42],[3,4]⟩,⟨[35,43],[3,4]⟩,⟨[35,37,44],[]⟩,⟨[35,45],[]⟩]⟩)]⟩
def O8:FT:=⟨[0,1,4],[]⟩
def O9:FT:=⟨[0,1,2,4],[]⟩
def Pa:FT:=⟨[0,1,2,3,6,7,9,10],[]⟩
def KD:FT:=⟨[0,1,2,5,6,7,8,9,10,24,42],[(2,⟨[],[⟨[0],[]⟩,⟨[15],[]⟩,⟨[16],[]⟩,⟨[17],[]⟩,⟨[7],[0,1,2,3]⟩,⟨[18,19],[]⟩,⟨[20],[]⟩,⟨[14],[]⟩,⟨[14],[7]⟩,⟨[21],[8]⟩,⟨[22],[]⟩]⟩),(5,⟨[],[⟨[0],[]⟩,⟨[26],[]⟩,⟨[27],[]⟩,⟨[28],[]⟩,⟨[29],[]⟩,⟨[0],[0,1,2,3,4]⟩,⟨[31],[0,1,2,3,4]⟩,⟨[32],[0,1,2,3,4]⟩,⟨[33],[0,1,2,3,4]⟩,⟨[34],[0,1,2,3,4]⟩,⟨[1],[0,1,2,3,4,5,6,7,8,9]⟩,⟨[5],[0,1,2,3,4,5,6,7,8,9,10]⟩,⟨[30,35,36,37],[]⟩,⟨[38],[]⟩,⟨[25],[]⟩,⟨[25],[14]⟩,⟨[39],[15]⟩,⟨[40],[]⟩]⟩),(8,⟨[],[⟨[0],[]⟩,⟨[43],[]⟩,⟨[44],[]⟩,⟨[45],[]⟩,⟨[7],[0,1,2,3]⟩,⟨[8],[0,1,2,3,4]⟩,⟨[46,47,48],[]⟩]⟩)]⟩
def Pb:FT:=⟨[0,2,3,4,7,15],[]⟩
def Pc:FT:=⟨[0,1,2,4],[]⟩
def Pd:FT:=⟨[0,1,2,3,4],[]⟩
def Pe:FT:=⟨[0,1,2,3,4,6,7],[]⟩
def DE:FT:=⟨[0,1,2,3,4,5,6,7,10,11,13,26,38],[]⟩
def Pf:FT:=⟨[0,2,4],[]⟩
def Pg:FT:=⟨[0,1,4,5,7,8,9,16],[]⟩
def Ph:FT:=⟨[0,1,2],[]⟩
def Pj:FT:=⟨[0,1,2],[]⟩
def Pk:FT:=⟨[0,1,4],[]⟩
def Pl:FT:=⟨[0,1,2],[]⟩
def Pm:FT:=⟨[0,1,2,3,4,5,6,8,15,17,36],[(3,⟨[],[⟨[8],[]⟩,⟨[18],[]⟩,⟨[4],[0,1]⟩,⟨[20],[0,1]⟩,⟨[4],[0,1,2,3]⟩,⟨[22],[0,1,2,3]⟩,⟨[23],[0,1,2,3]⟩,⟨[21,24],[0,1]⟩,⟨[19,25],[]⟩,⟨[3],[0,1,2,3,4,5,6,7,8]⟩,⟨[27],[0,1,2,3,4,5,6,7,8]⟩,⟨[28],[0,1,2,3,4,5,6,7,8]⟩,⟨[29],[0,1,2,3,4,5,6,7,8]⟩,⟨[30],[0,1,2,3,4,5,6,7,8]⟩,⟨[31],[0,1,2,3,4,5,6,7,8]⟩,⟨[32],[0,1,2,3,4,5,6,7,8]⟩,⟨[5],[0,1,2,3,4,5,6,7,8,9,10,11,12,13,14,15]⟩,⟨[33,34],[0,1,2,3,4,5,6,7,8]⟩,⟨[26,35],[]⟩]⟩)]⟩
def DF:FT:=⟨[0,1,2,3,4,5,6,7,10,11,13,26,38],[]⟩
def KE:FT:=⟨[0,2,4],[]⟩
def KF:FT:=⟨[0,2,3,9],[(3,⟨[],[⟨[0],[]⟩,⟨[2],[0]⟩,⟨[0],[0,1]⟩,⟨[3],[0,1,2]⟩,⟨[0],[0,1,2,3]⟩,⟨[3],[0,1,2,3,4]⟩,⟨[18,19],[0,1,2,3]⟩,⟨[20],[0,1,2,3]⟩,⟨[0],[0,1,2,3,4,5,6,7]⟩,⟨[2],[0,1,2,3,4,5,6,7,8]⟩,⟨[22,23],[0,1,2,3,4,5,6,7]⟩,⟨[24],[0,1,2,3,4,5,6,7]⟩,⟨[14,15],[2,3]⟩,⟨[21,26],[2,3]⟩,⟨[16,17],[]⟩,⟨[25,27],[]⟩]⟩)]⟩
def KG:FT:=⟨[0,2,3,9],[(3,⟨[],[⟨[0],[]⟩,⟨[2],[0]⟩,⟨[0],[0,1]⟩,⟨[3],[0,1,2]⟩,⟨[0],[0,1,2,3]⟩,⟨[3],[0,1,2,3,4]⟩,⟨[18,19],[0,1,2,3]⟩,⟨[20],[0,1,2,3]⟩,⟨[0],[0,1,2,3,4,5,6,7]⟩,⟨[2],[0,1,2,3,4,5,6,7,8]⟩,⟨[22,23],[0,1,2,3,4,5,6,7]⟩,⟨[24],[0,1,2,3,4,5,6,7]⟩,⟨[14,15],[2,3]⟩,⟨[21,26],[2,3]⟩,⟨[16,17],[]⟩,⟨[25,27],[]⟩]⟩)]⟩
def Pn:FT:=⟨[0,1,2,3,6,9,22,33],[]⟩
def Po:FT:=⟨[0,1,2,4,5,6,11,21],[]⟩
def Pp:FT:=⟨[0,1,2,3,4],[]⟩
def q9:FT:=⟨[0,2,4],[]⟩
def Pq:FT:=⟨[0,1,2,3,4,12,19,29,32,41,52,61],[(11,⟨[],[⟨[2],[]⟩,⟨[42],[]⟩,⟨[43],[]⟩,⟨[3],[0,1,2]⟩,⟨[45],[0,1,2]⟩,⟨[44,46],[]⟩,⟨[47],[]⟩,⟨[2],[0,1,2,3,4,5,6]⟩,⟨[49],[0,1,2,3,4,5,6]⟩,⟨[48,50],[]⟩,⟨[51],[]⟩]⟩)]⟩
def Ps:FT:=⟨[0,1,2,3,4,13,15,32,46,52,60],[]⟩
def Pu:FT:=⟨[0,1,4,5,6,7,8,9,10,11,12,21],[]⟩
def Pv:FT:=⟨[1,2,4,5],[]⟩
def Pw:FT:=⟨[0,1,3,4,15,22,34,39,48,50,52,63],[(1,⟨[14],[⟨[0],[]⟩,⟨[5],[]⟩,⟨[6],[]⟩,⟨[7],[]⟩,⟨[8],[]⟩,⟨[9],[]⟩,⟨[10],[]⟩,⟨[3],[0,1,2,3,4,5,6]⟩,⟨[12],[0,1,2,3,4,5,6]⟩,⟨[13],[0,1,2,3,4,5,6]⟩,⟨[11,14],[]⟩]⟩),(3,⟨[],[⟨[0],[]⟩,⟨[3],[0]⟩,⟨[17],[0]⟩,⟨[16],[1,2]⟩,⟨[19],[1,2]⟩,⟨[18,20],[]⟩,⟨[21],[]⟩]⟩),(4,⟨[33],[⟨[0],[]⟩,⟨[23],[]⟩,⟨[24],[]⟩,⟨[25],[]⟩,⟨[26],[]⟩,⟨[27],[]⟩,⟨[28],[]⟩,⟨[29],[]⟩,⟨[3],[0,1,2,3,4,5,6,7]⟩,⟨[31],[0,1,2,3,4,5,6,7]⟩,⟨[32],[0,1,2,3,4,5,6,7]⟩,⟨[30,33],[]⟩]⟩)]⟩
def GJ:FT:=⟨[0,1,3,4,17,32,52],[(6,⟨[],[⟨[0],[]⟩,⟨[3],[0]⟩,⟨[1],[0,1]⟩,⟨[37],[0,1]⟩,⟨[38],[0,1]⟩,⟨[39],[0,1]⟩,⟨[40],[0,1]⟩,⟨[36,41],[0]⟩,⟨[4],[0,1,2,3,4,5,6,7]⟩,⟨[1],[0,1,2,3,4,5,6,7,8]⟩,⟨[44],[0,1,2,3,4,5,6,7,8]⟩,⟨[45],[0,1,2,3,4,5,6,7,8]⟩,⟨[46],[0,1,2,3,4,5,6,7,8]⟩,⟨[47],[0,1,2,3,4,5,6,7,8]⟩,⟨[43,48],[0,1,2,3,4,5,6,7]⟩,⟨[42,49],[0]⟩,⟨[35,50],[]⟩,⟨[51],[]⟩]⟩)]⟩
def Px:FT:=⟨[0,1,4,5,7,8,9,16],[]⟩
def Py:FT:=⟨[0,1,4],[]⟩
def Pz:FT:=⟨[0,1,2],[]⟩
def PA:FT:=⟨[0,1,4,5,7,8,9,16],[]⟩
def PB:FT:=⟨[0,1,2,3,4,6,7,8,10,17,22,27,43,45,49],[(3,⟨[],[⟨[6],[]⟩,⟨[8],[0]⟩,⟨[6,20],[1]⟩,⟨[7],[1]⟩,⟨[8,21],[]⟩]⟩),(12,⟨[],[⟨[6],[]⟩,⟨[10],[0]⟩,⟨[51],[0]⟩,⟨[6,50],[1,2]⟩,⟨[7,52],[]⟩,⟨[8],[]⟩]⟩)]⟩
def PC:FT:=⟨[0,1,2,3,4,7,8,9,10,11,19,23,27],[]⟩
def KH:FT:=⟨[0,1,2,4,5,7,8,18,26,27,28,29,44,77,82],[]⟩
def PD:FT:=⟨[0,1,2],[]⟩
def PE:FT:=⟨[0,1,2],[]⟩
def PF:FT:=⟨[0,1,2,3,4,5,6,7,8,9,10,16,18,19,20,21,36,38,43,50,52,53,54,55,64,69],[]⟩
def PG:FT:=⟨[0,1,4,5,6,7,8,9,10,11,12,21],[]⟩
def PH:FT:=⟨[0,1,2,4,5],[(1,⟨[],[⟨[4],[]⟩,⟨[2],[0]⟩,⟨[7],[0]⟩,⟨[0],[0,1,2]⟩,⟨[8,9],[0]⟩,⟨[6,10],[]⟩,⟨[11],[]⟩]⟩)]⟩
def PI:FT:=⟨[0,1,2,4,5,7,8,13,17,29],[]⟩
def PJ:FT:=⟨[0,1,4,5,6,7,8,9,10,11,12,21],[]⟩
def PK:FT:=⟨[1,3,4],[]⟩
def PL:FT:=⟨[0,1,2,3,34],[]⟩
def PM:FT:=⟨[0,1,4,5,7,8,9,16],[]⟩
def PN:FT:=⟨[0,1,2,3,4,6],[]⟩
def PO:FT:=⟨[0,1,2],[]⟩
def PQ:FT:=⟨[0,1,2,3,6,7,8,9,10,24],[]⟩
def PR:FT:=⟨[0,1,2,4],[]⟩
def PS:FT:=⟨[0,1,2,4,12,21,22,23,28],[]⟩
def PT:FT:=⟨[0,1,2,3,4],[]⟩
def KI:FT:=⟨[0,1,3,8,18],[]⟩
def KJ:FT:=⟨[0,1,3,8,12],[]⟩
def PU:FT:=⟨[0,2,3,5,9,10,11,12,13,16,27],[]⟩
def PV:FT:=⟨[0,1,2,3,4,5,7,8,15,25,28,29,32,33,34,35,45,56],[(14,⟨[],[⟨[4],[]⟩,⟨[38],[]⟩,⟨[4],[0,1]⟩,⟨[40],[0,1]⟩,⟨[7],[0,1,2,3]⟩,⟨[41,42],[0,1]⟩,⟨[39,43],[]⟩,⟨[44],[]⟩]⟩)]⟩
def PW:FT:=⟨[0,1,4],[]⟩
def PY:FT:=⟨[0,1,2,3],[]⟩
def PZ:FT:=⟨[0,1,2,4],[]⟩
def KK:FT:=⟨[0,1,3,8,18],[]⟩
def P0:FT:=⟨[0,1,4],[]⟩
def P1:FT:=⟨[0,1,2,3],[]⟩
def P2:FT:=⟨[0],[]⟩
def P3:FT:=⟨[0,1,2,3,4],[]⟩
def P4:FT:=⟨[0,1,2,4,5,23],[]⟩
def P5:FT:=⟨[0,1,2],[]⟩
def P6:FT:=⟨[0,1,4,5,7,8,9,16],[]⟩
def P7:FT:=⟨[0,1,4,5,7,8,9,16],[]⟩
def GL:FT:=⟨[0,1,3,5,18,19,20,21,31],[(4,⟨[],[⟨[0],[]⟩,⟨[3],[0]⟩,⟨[3],[0,1]⟩,⟨[5],[0,1,2]⟩,⟨[26,27],[0,1]⟩,⟨[25,28],[0]⟩,⟨[24,29],[]⟩,⟨[30],[]⟩]⟩)]⟩
def KL:FT:=⟨[0,1,2,3,4,5,6,7,8,9,23],[]⟩
def P8:FT:=⟨[0,1,2,3,4,5,6,7,8,9,19],[(5,⟨[],[⟨[5],[]⟩,⟨[30],[]⟩,⟨[9],[0,1]⟩,⟨[32],[0,1]⟩,⟨[33],[0,1]⟩,⟨[31,34],[]⟩,⟨[5],[0,1,2,3,4,5]⟩,⟨[36],[0,1,2,3,4,5]⟩,⟨[9],[0,1,2,3,4,5,6,7]⟩,⟨[38],[0,1,2,3,4,5,6,7]⟩,⟨[39],[0,1,2,3,4,5,6,7]⟩,⟨[37,40],[0,1,2,3,4,5]⟩,⟨[35,41],[]⟩,⟨[5],[0,1,2,3,4,5,6,7,8,9,10,11,12]⟩,⟨[43],[0,1,2,3,4,5,6,7,8,9,10,11,12]⟩,⟨[44],[0,1,2,3,4,5,6,7,8,9,10,11,12]⟩,⟨[45],[0,1,2,3,4,5,6,7,8,9,10,11,12]⟩,⟨[5,46],[0,1,2,3,4,5,6,7,8,9,10,11,12]⟩,⟨[46,47],[0,1,2,3,4,5,6,7,8,9,10,11,12]⟩,⟨[9,46],[0,1,2,3,4,5,6,7,8,9,10,11,12,17,18]⟩,⟨[46,49],[0,1,2,3,4,5,6,7,8,9,10,11,12,17,18]⟩,⟨[46,48,50],[0,1,2,3,4,5,6,7,8,9,10,11,12]⟩,⟨[46,51],[0,1,2,3,4,5,6,7,8,9,10,11,12]⟩,⟨[6,42],[17,18,19,20,21,22]⟩,⟨[52],[]⟩]⟩)]⟩
def P9:FT:=⟨[0,1,4,5,7,8,9,16],[]⟩
def Qa:FT:=⟨[0,1,2,3],[]⟩
end Go.PX
namespace Go.PX
open Go.Proofs
theorem ao:bl Tryz.prog tys:=sP (by decide +kernel)
theorem mixed:Tryz.prog.follows .mixedOrders=true:=by decide +kernel
theorem aB{f:FuncId}{fn:Func}{c:Code}(hf:Tryz.prog.funcs[f]?=some fn)(hb:fn.body=some c){ft:FT}{ds:List D}{r:D}(n:Nat)
  (hw:∀ {σ:Type} (Y:Hd σ) (s:σ),Di Tryz.prog tys ft Y c ⟨ia 0 (inj ds),[],s⟩ (Sk tys fn.results.toList fun v h' s'=>(v = .d r/\h' = [])/\s'=s))
  (eg:qC ft fn n=true:=by decide +kernel) (hn:ds.length=n:=by rfl):aX Tryz.prog f ds r:=iP mixed ao hf hb n eg hn hw
def bS(l:List Int):D:=.vs (l.map fun n=>[i64 n])
def a6(n lo hi:Int):Bool:=decide (lo<=n)&&decide (n<=hi)
theorem nS(n lo hi:Int):aX Tryz.prog 104 [i64 n,i64 lo,i64 hi] (.bool (a6 n lo hi)):=by
 refine iP mixed ao Tryz.func104 rfl (ft:=O4) 3 (by decide +kernel) rfl fun {σ} Y s=>?_;conv=>whnf
 refine ag (fun hb=>?_) (fun hb=>?_)
 ·conv=>whnf
  refine an 0 rfl ⟨⟨?_,rfl⟩,rfl⟩;simp[bL,a6]at hb ⊢;simp[hb]
 ·conv=>whnf
  refine an 0 rfl ⟨⟨?_,rfl⟩,rfl⟩;simp[bL,a6]at hb ⊢;omega
theorem jR(n lo hi:Int):aX Tryz.prog 22 [i64 n,i64 lo,i64 hi] (.bool (a6 n lo hi)):=by
 refine iP mixed ao Tryz.func22 rfl (ft:=T4) 3 (by decide +kernel) rfl fun {σ} Y s=>?_;conv=>whnf
 refine ag (fun hb=>?_) (fun hb=>?_)
 ·conv=>whnf
  refine an 0 rfl ⟨⟨?_,rfl⟩,rfl⟩;simp[bL,a6]at hb ⊢;simp[hb]
 ·conv=>whnf
  refine an 0 rfl ⟨⟨?_,rfl⟩,rfl⟩;simp[bL,a6]at hb ⊢;omega
structure Span where
 lo:Int
 hi:Int
 deriving DecidableEq
def Span.cells(s:Span):List D:=[i64 s.lo,i64 s.hi]
def Span.d(s:Span):D:=.agg s.cells
def cw(l:List Span):D:=.vs (l.map Span.cells)
def spread(lo hi:Int):List Span->Int->Int
 | [],e=>e
 | s::r,e=>if a6 s.lo lo hi&&a6 s.hi lo hi then spread lo hi r (if s.lo>s.hi then 2 else e) else 7
theorem GA(l:List Span)(lo hi:Int)(hl:l.length<4000000000000000000):aX Tryz.prog 65 [cw l,i64 lo,i64 hi] (i64 (spread lo hi l 0)):=by
 refine iP mixed ao Tryz.func65 rfl (ft:=UI) 3 (by decide +kernel) rfl fun {σ} Y s=>?_;conv=>whnf
 refine bP (T:=tys) ao (by exact ai mixed ao (by decide +kernel)) (α:=Nat×Int)
  (fun x=>⟨[(0,.d (cw l)),(1,.d (i64 lo)),(2,.d (i64 hi)),(7,.d (i64 x.2)),(8,.d (i64 x.1))],[],s⟩) (fun x=>x.1<=l.length/\spread lo hi l 0=spread lo hi (l.drop x.1) x.2) (fun x=>l.length-x.1) (0,0)
  aI (by simp) ?_
 rintro ⟨i,e⟩ ⟨IA,he⟩;simp only at IA he;conv=>whnf
 refine ag (fun hb=>?_) (fun hb=>?_)
 ·have hb:i<l.length:=by simpa using hb
  have hd:l.drop i=l[i]::l.drop (i+1):=List.drop_eq_getElem_cons hb;rw[hd,spread]at he;have step:∀ {dm:St σ} {e':Int},(a6 l[i].lo lo hi&&a6 l[i].hi lo hi)=true->e'=(if l[i].lo>l[i].hi then 2 else e)->Wk dm ⟨[(0,.d (cw l)),(1,.d (i64 lo)),(2,.d (i64 hi)),(7,.d (i64 e')),(8,.d (i64 ((i:Int)+1)))],[],s⟩ ->
    ∃ y:Nat×Int,l.length-y.1<l.length-i/\(y.1<=l.length/\spread lo hi l 0=spread lo hi (l.drop y.1) y.2)/\Wk dm ⟨[(0,.d (cw l)),(1,.d (i64 lo)),(2,.d (i64 hi)),(7,.d (i64 y.2)),(8,.d (i64 y.1))],[],s⟩:=by
   intro dm e' h1 h2 h3;rw[if_pos h1]at he;exact⟨(i+1,e'),by simp only;omega,⟨hb,by rw[he,h2]⟩,by simpa using h3⟩
  conv=>whnf
  refine bY l[i].cells (by simp[hb]) ?_;conv=>whnf
  refine ah (nS _ _ _) rfl rfl ?_;conv=>whnf
  refine ag (fun h1=>?_) (fun h1=>?_)
  ·
   conv=>whnf
   rw[if_neg (by simp at h1;simp[h1])]at he;rw[he];exact ae
  ·conv=>whnf
   refine bY l[i].cells (by simp[hb]) ?_;conv=>whnf
   refine ah (nS _ _ _) rfl rfl ?_;conv=>whnf
   refine ag (fun h2=>?_) (fun h2=>?_)
   ·conv=>whnf
    rw[if_neg (by simp at h2;simp[h2])]at he;rw[he];exact ae
   ·conv=>whnf
    refine bY l[i].cells (by simp[hb]) ?_;conv=>whnf
    refine bY l[i].cells (by simp[hb]) ?_;conv=>whnf
    have py:(a6 l[i].lo lo hi&&a6 l[i].hi lo hi)=true:=by simp at h1 h2;simp[h1,h2]
    refine ag (fun h3=>?_) (fun h3=>?_)
    ·conv=>whnf
     refine af ?_;conv=>whnf
     exact step py (by simp at h3;rw[if_pos h3]) aI
    ·conv=>whnf
     refine af ?_;conv=>whnf
     exact step py (by simp at h3;rw[if_neg (by omega)]) aI
 ·have hb:¬ i<l.length:=by simpa using hb
  conv=>whnf
  rw[List.drop_of_length_le (by omega)]at he;simp only[spread]at he;rw[he];exact ae
theorem OS(n lo hi:Int):aX Tryz.prog 113 [i64 n,.ref [i64 lo],.ref [i64 hi]] (.bool (decide (n<lo)||decide (n>hi))):=by
 refine iP mixed ao Tryz.func113 rfl (ft:=Pc) 3 (by decide +kernel) rfl fun {σ} Y s=>?_;conv=>whnf
 refine ag (fun hb=>?_) (fun hb=>?_)
 ·conv=>whnf
  refine an 0 rfl ⟨⟨?_,rfl⟩,rfl⟩;have hb:n<lo:=by simpa using hb
  simp[bL,hb]
 ·conv=>whnf
  refine an 0 rfl ⟨⟨?_,rfl⟩,rfl⟩;have hb:¬ n<lo:=by simpa using hb
  simp[bL,hb]
def indexOf{α:Type}(p:α->Bool):List α->Int->Int
 | [],_=>-1
 | x::r,i=>if p x then i else indexOf p r (i+1)
theorem eO{α:Type}(p:α->Bool):∀ (l:List α) (i:Int),0<=i->decide (indexOf p l i≥0)=l.any p
 | [],i,_=>by simp[indexOf]
 | x::r,i,h=>by
  simp only[indexOf,List.any_cons];split
  ·rename_i hp;simp[hp,h]
  ·rename_i hp
   rw[eO p r (i+1) (by omega)];simp[hp]
theorem OB(l:List Int)(g:FuncId)(aL:List D)(p:Int->Bool)(hl:l.length<4000000000000000000)(hp:∀ x∈l,aX Tryz.prog g (i64 x::aL) (.bool (p x))) :
  aX Tryz.prog 141 [bS l,.clo g aL] (i64 (indexOf p l 0)):=by
 refine iP mixed ao Tryz.func141 rfl (ft:=PA) 2 (by decide +kernel) rfl fun {σ} Y s=>?_;conv=>whnf
 refine bP (T:=tys) ao (by exact ai mixed ao (by decide +kernel)) (α:=Nat)
  (fun i=>⟨[(0,.d (bS l)),(1,.d (.clo g aL)),(7,.d (i64 l.length)),(8,.d (i64 i))],[],s⟩) (fun i=>i<=l.length/\indexOf p l 0=indexOf p (l.drop i) i) (fun i=>l.length-i) 0
  (Wk.sub ⟨rfl,rfl,by simp[PX.get],rfl,trivial⟩ trivial) (by simp) ?_
 rintro i ⟨hi,he⟩;conv=>whnf
 refine ag (fun hb=>?_) (fun hb=>?_)
 ·have hb:i<l.length:=by simpa using hb
  have hd:l.drop i=l[i]::l.drop (i+1):=List.drop_eq_getElem_cons hb;rw[hd,indexOf]at he;conv=>whnf
  refine bY [i64 l[i]] (by simp[hb]) ?_;conv=>whnf
  refine ah (ds:=i64 l[i]::aL) (hp _ (List.getElem_mem hb)) rfl rfl ?_;conv=>whnf
  refine ag (fun h1=>?_) (fun h1=>?_)
  ·conv=>whnf
   rw[if_pos h1]at he;rw[he];exact ae
  ·conv=>whnf
   rw[if_neg (by simp[h1])]at he;refine af ?_;conv=>whnf
   exact⟨i+1,by omega,⟨hb,by rw[he];rfl⟩,Wk.sub ⟨rfl,rfl,rfl,rfl,trivial⟩ trivial⟩
 ·have hb:¬ i<l.length:=by simpa using hb
  conv=>whnf
  rw[List.drop_of_length_le (by omega)]at he;rw[he];exact ae
theorem I0(l:List Int)(g:FuncId)(aL:List D)(p:Int->Bool)(hl:l.length<4000000000000000000)(hp:∀ x∈l,aX Tryz.prog g (i64 x::aL) (.bool (p x))) :
  aX Tryz.prog 108 [bS l,.clo g aL] (.bool (l.any p)):=by
 refine iP mixed ao Tryz.func108 rfl (ft:=O8) 2 (by decide +kernel) rfl fun {σ} Y s=>?_;conv=>whnf
 refine ah (OB l g aL p hl hp) rfl rfl ?_;conv=>whnf
 refine an 0 rfl ⟨⟨?_,rfl⟩,rfl⟩;rw[<- eO p l 0 (by omega)];rfl
theorem LS(lo hi:Int)(l:List Int)(hl:l.length<4000000000000000000):aX Tryz.prog 76 [i64 lo,i64 hi,bS l] (.bool (l.any fun n=>decide (n<lo)||decide (n>hi))):=by
 refine iP mixed ao Tryz.func76 rfl (ft:=Qh) 3 (by decide +kernel) rfl fun {σ} Y s=>?_;conv=>whnf
 refine ak (I0 l 113 [.ref [i64 lo],.ref [i64 hi]] (fun n=>decide (n<lo)||decide (n>hi)) hl fun x _=>OS x lo hi) rfl 1 rfl ?_;conv=>whnf
 exact ae
theorem Il{α β:Type}(f:α->β)(l:List α):(l.map f).take l.length=l.map f:=by rw[List.take_of_length_le (by simp)]
structure cT where
 day:Int
 shown:Int
 deriving DecidableEq
def cT.cells(g:cT):List D:=[i64 g.day,i64 g.shown]
def fZ(l:List cT):D:=.vs (l.map cT.cells)
def dO{α:Type}(out:List Int):List α->Int->List α
 | [],_=>[]
 | x::r,i=>if i∈out then dO out r (i+1) else x::dO out r (i+1)
theorem CE{a b:Int}(A B:Nat)(ha : -(A:Int)<=a/\a<=A)(hb : -(B:Int)<=b/\b<=B) : -((A*B:Nat):Int)<=a*b/\a*b<=((A*B:Nat):Int):=by
 have h1:a.natAbs<=A:=by omega
 have h2:b.natAbs<=B:=by omega
 have h3:(a*b).natAbs<=A*B:=by rw[Int.natAbs_mul];exact Nat.mul_le_mul h1 h2
 omega
structure bK where
 name:ByteArray
 ff:Int
 set:Int
 new:Span
 wear:Span
 aY:List cT
def bK.cells(s:bK):List D:=[.str s.name,i64 s.ff,i64 s.set,i64 s.new.lo,i64 s.new.hi,i64 s.wear.lo,i64 s.wear.hi,fZ s.aY]
def bK.d(s:bK):D:=.agg s.cells
def bd(n:Int):Prop:=-1000000000<=n/\n<=1000000000
def vF(set fresh wear day:Int):Int:=max 0 (fresh-wear*(day-set))
theorem Gz(n b:Int)(hn:0<=n/\n<=4000000000000000000)(hb:0<b/\b<=1000000):aX Tryz.prog 121 [i64 n,i64 b] (i64 ((n+b-1).tdiv b)):=by
 refine aB Tryz.func121 rfl (ft:=Pk) 2 fun {σ} Y s=>?_;conv=>whnf
 refine af ?_;conv=>whnf
 refine af ?_;conv=>whnf
 refine bc (by simp;omega) ?_;conv=>whnf
 refine nK (wrap_i64 ?_) ?_
 ·have h1:0<=(n+b-1).tdiv b:=Int.tdiv_nonneg (by omega) (by omega)
  have h2:(n+b-1).tdiv b<=n+b-1:=by
   rw[Int.tdiv_eq_ediv_of_nonneg (by omega)];exact Int.ediv_le_self _ (by omega)
  omega
 conv=>whnf
 exact ae
def gA(dn:Int):Int:=(dn*dn).tdiv 20000
theorem LX(n:Int)(hn:bd n):aX Tryz.prog 82 [i64 n] (i64 (gA n)):=by
 refine aB Tryz.func82 rfl (ft:=US) 1 fun {σ} Y s=>?_;unfold bd at hn;have hm:=CE (a:=n) (b:=n) 1000000000 1000000000 (by omega) (by omega);have h0:0<=n*n:=by
  rcases Int.le_total 0 n with h|h
  ·exact Int.mul_nonneg h h
  ·exact Int.mul_nonneg_of_nonpos_of_nonpos h h
 have hq:0<=(n*n).tdiv 20000/\(n*n).tdiv 20000<=n*n:=⟨Int.tdiv_nonneg h0 (by omega),by
  rw[Int.tdiv_eq_ediv_of_nonneg h0];exact Int.ediv_le_self _ h0⟩
 conv=>whnf
 refine af ?_;conv=>whnf
 refine af ?_;conv=>whnf
 exact ae
def ua(set off wear:Int)(p:Int×Int)(g:cT):Option (Int×Int):=
 let lost:=wear*(g.day-set)
 let lo:=if g.shown>off then max p.1 (g.shown-off+lost) else p.1
 let hi:=min p.2 (g.shown+off+lost)
 if lo>hi then none else some (lo,hi)
def nQ(set off wear:Int):Int×Int->List cT->Option (Int×Int)
 | p,[]=>some p
 | p,g::r=>match ua set off wear p g with
  | none=>none
  | some q=>nQ set off wear q r
def y7(g:cT):Prop:=0<=g.day/\g.day<=1000000/\0<=g.shown/\g.shown<=1000000
theorem Ce{set off wear:Int}{p q:Int×Int}{g:cT}(h:ua set off wear p g=some q):p.1<=q.1/\q.1<=q.2/\q.2<=p.2:=by
 unfold ua at h;by_cases hs:g.shown>off
 ·simp only[hs,if_true]at h
  split at h
  ·cases h
  ·cases h;simp only;omega
 ·simp only[hs,if_false]at h
  split at h
  ·cases h
  ·cases h;simp only;omega
theorem Ay{set off wear:Int}:∀ {gs:List cT} {p q:Int×Int},p.1<=p.2->nQ set off wear p gs=some q->p.1<=q.1/\q.1<=q.2/\q.2<=p.2
 | [],p,q,hp,h=>by simp only[nQ,Option.some.injEq]at h;subst h;omega
 | g::r,p,q,hp,h=>by
  simp only[nQ]at h;split at h
  ·cases h
  ·rename_i p' EU
   have h1:=Ce EU;have h2:=Ay h1.2.1 h;omega
def zD(set off day:Int)(new:Int×Int)(gs:List cT):Nat->Int->Span×Bool->Span×Bool
 | 0,_,acc=>acc
 | n+1,wear,acc=>zD set off day new gs n (wear+1) (match nQ set off wear new gs with
  | none=>acc
  | some f=>
   let lo:=vF set f.1 wear day
   let hi:=vF set f.2 wear day
   let out:=if acc.2 then acc.1 else ⟨lo,hi⟩
   (⟨min out.lo lo,max out.hi hi⟩,true))
structure Ln(s:bK):Prop where
 set:0<=s.set/\s.set<=1000000
 new:0<=s.new.lo/\s.new.lo<=1000000/\0<=s.new.hi/\s.new.hi<=1000000/\s.new.lo<=s.new.hi
 wear:0<=s.wear.lo/\s.wear.lo<=1000000/\0<=s.wear.hi/\s.wear.hi<=900000
def dU(s:bK)(off:Int)(gs:List cT)(day:Int):Span×Bool:=zD s.set off day (s.new.lo,s.new.hi) gs (s.wear.hi+1-s.wear.lo).toNat s.wear.lo (⟨0,0⟩,false)
structure Row where
 scope:Int
 holds:Int
def Row.cells(r:Row):List D:=[i64 r.scope,i64 r.holds]
def gq(l:List bK):D:=.vs (l.map bK.cells)
def oz(l:List Row):D:=.vs (l.map Row.cells)
structure kV where
 av:List bK
 tS:Int
 fC:Int
 err:Int
 hold:Span
 rows:List Row
def kV.cells(c:kV):List D:=[gq c.av,i64 c.tS,i64 c.fC,i64 c.err,i64 c.hold.lo,i64 c.hold.hi,oz c.rows]
def kV.d(c:kV):D:=.agg c.cells
def ca:List bK->Int
 | []=>0
 | s::r=>s.ff+ca r
theorem A8{l:List bK}{i:Nat}{s:bK}(h:l[i]?=some s):ca (l.take (i+1))=ca (l.take i)+s.ff:=by
 induction l generalizing i with
 | nil=>simp at h
 | cons x r ih=>
  cases i with
  | zero=>simp at h;subst h;simp[ca]
  | succ i=>simp at h;simp only[List.take_succ_cons,ca,ih h];omega
theorem E3{l:List bK}(h:∀ s∈l,bd s.ff)(i:Nat) : -1000000000*(i:Int)<=ca (l.take i)/\ca (l.take i)<=1000000000*(i:Int):=by
 induction l generalizing i with
 | nil=>simp[ca];omega
 | cons x r ih=>
  cases i with
  | zero=>simp[ca]
  | succ i=>
   have h1:=ih (fun s hs=>h s (List.mem_cons_of_mem _ hs)) i;have h2:=h x (List.mem_cons_self ..);unfold bd at h2;simp only[List.take_succ_cons,ca];omega
theorem LY(c:kV)(hl:c.av.length<1000000)(hb:∀ s∈c.av,bd s.ff):aX Tryz.prog 86 [c.d] (i64 (ca c.av)):=by
 refine aB Tryz.func86 rfl (ft:=UX) 1 fun {σ} Y st=>?_;conv=>whnf
 refine bP (T:=tys) ao (by exact ai mixed ao (by decide +kernel)) (α:=Nat)
  (fun i=>⟨[(2,.d (i64 (ca (c.av.take i)))),(6,.d (gq c.av)),(7,.d (i64 c.av.length)),(8,.d (i64 i))],[],st⟩) (fun i=>i<=c.av.length) (fun i=>c.av.length-i) 0
  (Wk.sub ⟨rfl,rfl,by simp[PX.get],rfl,trivial⟩ trivial) (by omega) ?_
 rintro i hi;conv=>whnf
 refine ag (fun hc=>?_) (fun hc=>?_)
 ·have hc:i<c.av.length:=by simpa using hc
  obtain⟨s,hs⟩:∃ s,c.av[i]?=some s:=⟨_,List.getElem?_eq_getElem hc⟩;have h1:=E3 hb i;have h2:=hb s (List.mem_of_getElem? hs);unfold bd at h2;conv=>whnf
  refine bY s.cells (by simp[hs]) ?_;conv=>whnf
  refine af ?_;conv=>whnf
  refine af ?_;conv=>whnf
  exact⟨i+1,by omega,hc,Wk.sub ⟨by rw[A8 hs];rfl,rfl,rfl,rfl,trivial⟩ trivial⟩
 ·have hc:¬ i<c.av.length:=by simpa using hc
  conv=>whnf
  rw[List.take_of_length_le (by omega)];exact ae
theorem LP(a b:List Int)(ha:a.length<1000000):aX Tryz.prog 36 [bS a,bS b] (.bool (decide (a=b))):=by
 refine aB Tryz.func36 rfl (ft:=Ui) 2 fun {σ} Y st=>?_;conv=>whnf
 refine ag (fun h0=>?_) (fun h0=>?_)
 ·have h0:a.length≠b.length:=by
   intro e;simp[e]at h0
  conv=>whnf
  rw[decide_eq_false (by rintro rfl;exact h0 rfl)];exact ae
 ·have h0:a.length=b.length:=by
   have:=h0;simp at this;omega
  conv=>whnf
  refine bP (T:=tys) ao (by exact ai mixed ao (by decide +kernel)) (α:=Nat)
   (fun i=>⟨[(0,.d (bS a)),(1,.d (bS b)),(5,.d (i64 i))],[],st⟩) (fun i=>i<=a.length/\a.take i=b.take i) (fun i=>a.length-i) 0
   aI (by simp) ?_
  rintro i ⟨hi,he⟩;conv=>whnf
  refine ag (fun hc=>?_) (fun hc=>?_)
  ·have hc:i<a.length:=by simpa using hc
   have sj:i<b.length:=by omega
   conv=>whnf
   refine bY [i64 a[i]] (by simp[hc]) ?_;conv=>whnf
   refine bY [i64 b[i]] (by simp[sj]) ?_;conv=>whnf
   refine ag (fun h1=>?_) (fun h1=>?_)
   ·conv=>whnf
    have h1:a[i]≠b[i]:=by simpa using h1
    rw[decide_eq_false (by rintro rfl;exact h1 rfl)];exact ae
   ·have h1:a[i]=b[i]:=by simpa using h1
    conv=>whnf
    refine af ?_;conv=>whnf
    exact⟨i+1,by omega,⟨hc,by rw[List.take_succ_eq_append_getElem hc,List.take_succ_eq_append_getElem sj,he,h1]⟩,Wk.sub ⟨rfl,rfl,rfl,trivial⟩ trivial⟩
  ·have hc:¬ i<a.length:=by simpa using hc
   conv=>whnf
   rw[List.take_of_length_le (by omega),List.take_of_length_le (by omega)]at he;rw[decide_eq_true he];exact ae
end Go.PX
