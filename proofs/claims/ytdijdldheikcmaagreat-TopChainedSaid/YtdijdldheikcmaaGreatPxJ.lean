import Derived.Test.YtdijdldheikcmaaGreatPxI
import Derived.ProofKit
import Derived.ReadAgain
import Derived.Test.YtdijdldheikcmaaGreatPxA
import Derived.Test.YtdijdldheikcmaaGreatPxH
import Derived.Test.YtdijdldheikcmaaGreatProg
set_option linter.all false
set_option maxRecDepth 10000
namespace Go.PX
open Go.RowKit Go.ChangeShapes
def nN(W:World)(b:Nat):Nat:=match W.heap[b]? with
 | some (.cells c _ _)=>c.size+1
 | some _=>1
 | none=>0
def Pk(W:World):Cx Unit where
 C:=fun _ b=>b<W.heap.size
 HG:=fun _ w F=>W.heap.size<=w.heap.size /\ ∀ b,b<W.heap.size->w.heap[b]?=W.heap[b]?
 yv:=none
 wg:=none
 pρ:=id
 pκ:=id
 ff:=by
  rintro s w F w' F' ⟨h1,h2⟩ tr hf hk;exact⟨Nat.le_trans h1 tr.size,fun b hb=>(hk b hb).1.trans (h2 b hb)⟩
structure yo(W W':World):Prop where
 os:W'.os=W.os
 output:W'.output=W.output
 size:W.heap.size<=W'.heap.size
 heap:∀ b,b<W.heap.size->W'.heap[b]?=W.heap[b]?
theorem yo.frame{W W':World}(h:yo W W')(may:MemPlace->Prop):W.keptBut W' may:=by
 refine⟨h.os,h.output,fun i hi=>?_⟩;rw[h.heap i hi]
 cases W.heap[i]? with
 | none=>rfl
 | some o=>cases o with
  | cells c t fr=>exact⟨rfl,rfl,rfl,fun _ _=>rfl⟩
  | map es clock=>exact .inr ⟨rfl,rfl⟩
  | _=>rfl
theorem yo.sameAt{W W':World}(h:yo W W'){p:MemPlace}(hp:p.block<W.heap.size):W.sameAt W' p:=by
 cases p with
 | cell b off=>
  have:=h.heap b hp;simp only[World.sameAt,World.cell?,this]
 | map b=>exact h.heap b hp
theorem Laid.still{P:Program}{W w:World}(hl:Laid P W)(hs:W.heap.size<=w.heap.size)(hk:∀ b,b<W.heap.size->w.heap[b]?=W.heap[b]?):Laid P w:=by
 have lt:∀ {g:Nat} {o:Go.Obj},W.heap[g]?=some o->w.heap[g]?=some o:=fun {g o} h=>by
  rw[hk g (Array.getElem?_eq_some_iff.1 h).1];exact h
 have cell:∀ {g:Nat} {v:Value},W.cell? ⟨g,0,none⟩=some v->w.cell? ⟨g,0,none⟩=some v:=fun {g v} h=>by
  unfold World.cell? at h ⊢;simp only at h ⊢;split at h
  ·rename_i c t f hb
   rw[lt hb];exact h
  ·cases h
 refine⟨fun g hg=>?_,fun g hg=>?_,fun g hg=>?_,fun g hg=>?_⟩
 ·have h:=hl.W5 g hg
  unfold Lib.TabIs World.var? at h ⊢;rw[hg]at h ⊢;simp only[Option.bind_some]at h ⊢;split at h
  ·rename_i c t f hb
   rw[lt hb];exact h
  ·cases h
 ·obtain⟨m,h⟩:=hl.len g hg;exact⟨m,cell h⟩
 ·obtain⟨m,v,h⟩:=hl.W2 g hg;exact⟨m,v,cell h⟩
 ·obtain⟨m,v,h⟩:=hl.WY g hg;exact⟨m,v,cell h⟩
theorem top{P:Program}{f:FuncId}{ds:List D}{d:D}(h:aW P f ds d)(W:World)(hl:Laid P W)(args:Array Value)(hr:aN (nN W) W ds args.toList) :
  Calls P f args W fun e W'=>∃ x,e = .returned x/\(∃ F',bq F' W' d x)/\yo W W':=by
 have h1:=(h (σ:=Unit) { y:=fun _ _ _ _=>False } ()).run (Pk W) ⟨fun l hl=>by(cases hl),fun s w F hh=>hl.still hh.1 hh.2⟩ ⟨id,id⟩ (nN W) args W
  ⟨⟨Nat.le_refl _,fun _ _=>rfl⟩,fun b hb=>hb,fun b hb=>by simp[nN,Array.getElem?_eq_none hb],fun id o ho=>by simp[get]at ho,fun id o ho=>by simp[get]at ho,fun i j o p ho=>by simp[get]at ho⟩ (ak.inj.2 hr)
 refine callsIn_wide.1 (h1.mono ?_);rintro e W' ⟨x,rfl,v,h',s',L',F',⟨⟨rfl,rfl⟩,_⟩,hh,hx,tr,_⟩;exact⟨x,rfl,⟨F',hx⟩,tr.os,tr.output,hh.hg.1,hh.hg.2⟩
theorem ou{H:Type}{enc:TypeId×Value->H}{P:Program}{W W':World}{base:Nat}{sp:Nat->Bool}{held:Bool}:∀ {ts:List TypeId} {vs:List Value} {ds:List (DataW H)} {ps:List MemPlace},
  DataW.TrodAll enc P W base sp held ts vs ds ps->(∀ p∈ps,W.sameAt W' p)->DataW.TrodAll enc P W' base sp held ts vs ds ps
 | [],[],[],_,h,_=>h
 | _::_,_::_,_::_,_,⟨p,q,⟨n,h1⟩,h2,e⟩,hs=>⟨p,q,⟨n,DataW.trod_carry n _ _ _ h1 fun x hx=>hs x (by rw[e];exact List.mem_append_left _ hx)⟩,ou h2 (fun x hx=>hs x (by rw[e];exact List.mem_append_right _ hx)),e⟩
structure Rd(P:Program)(W:World)(t:TypeId)(S:List D->Prop):Prop where
 read:∀ {H:Type} {enc:TypeId×Value->H} {sp:Nat->Bool} {held:Bool} {fuel:Nat} {cs:List Value} {x:DataW H×List MemPlace},DataW.trod enc P W 0 sp held fuel t cs=some x -> ∃ ds,S ds/\aN (nN W) W ds cs
section
variable {P : Program} {W : World} {t : TypeId}
theorem Rd.int{k:IntKind}(ht:P.underlying t=some (.int k)):Rd P W t fun ds=>∃ n,ds = [.int k n]:=by
 refine⟨?_⟩;intro H enc sp held fuel cs x h;obtain⟨n,rfl,_,_⟩:=DataW.trod_int ht h;exact⟨[.int k n],⟨n,rfl⟩,_,[],rfl,rfl,rfl⟩
theorem Rd.str(ht:P.underlying t=some .string):Rd P W t fun ds=>∃ s,ds = [.str s]:=by
 refine⟨?_⟩;intro H enc sp held fuel cs x h;obtain⟨n,rfl,_,_⟩:=DataW.trod_string ht h;exact⟨[.str n],⟨n,rfl⟩,_,[],rfl,rfl,rfl⟩
theorem Rd.mono{S S':List D->Prop}(h:Rd P W t S)(hS:∀ ds,S ds->S' ds):Rd P W t S':=by
 refine⟨?_⟩;intro H enc sp held fuel cs x hx;obtain⟨ds,h1,h2⟩:=h.read hx;exact⟨ds,hS ds h1,h2⟩
theorem Cz{b off:Nat}{v:Value}(h:W.cell? ⟨b,off,none⟩=some v):off<nN W b:=by
 unfold World.cell? at h;unfold nN;simp only at h;split at h
 ·rename_i c t' f hb
  rw[hb];simp only[Option.isSome_none,Bool.false_eq_true,if_false]at h;obtain⟨dN,_⟩:=Array.getElem?_eq_some_iff.1 h;simp only;omega
 ·cases h
theorem zB:∀ {ds:List D} {cs:List Value} {b off:Nat},aN (nN W) W ds cs->(∀ i v,cs[i]?=some v->W.cell? ⟨b,off+i,none⟩=some v)->bW (nN W) W b off ds
 | [],_,_,_,_,_=>trivial
 | d::r,_,b,off,h,hc=>by
  obtain⟨x,l',rfl,hd,hl⟩:=h;have h0:=hc 0 x rfl;refine⟨Cz h0,⟨x,h0,hd⟩,zB hl fun i v hv=>?_⟩;have:=hc (i+1) v hv
  rwa [show off+(i+1)=off+1+i by omega]at this
theorem nq{a:Addr}{k:Nat}{cs:List Value}(h:W.cells? 0 a k=some cs):cs.length=k /\ ∀ i v,cs[i]?=some v->W.cell? (a.add i)=some v:=by
 unfold World.cells? at h;rw[if_pos (Nat.zero_le _)]at h;have hl:cs.length=k:=by simpa using mapM_some_length h
 refine⟨hl,fun i v hv=>?_⟩;have hi:i<k:=by
  have:=(List.getElem?_eq_some_iff.1 hv).1;omega
 rw[mapM_some_get h i i (by simp[hi]),hv]
theorem uz{e:TypeId}{S:List D->Prop}{b:Nat}{k:Nat}:∀ {n:Nat} {off:Nat},(∀ i,i<n -> ∃ cs ds,cs.length=k/\(∀ j v,cs[j]?=some v->W.cell? ⟨b,off+i*k+j,none⟩=some v)/\S ds/\aN (nN W) W ds cs) ->
  ∃ es:List (List D),es.length=n/\(∀ e∈es,S e)/\cv (nN W) W b off k es
 | 0,off,_=>⟨[],rfl,fun e h=>by(cases h),trivial⟩
 | n+1,off,h=>by
  obtain⟨cs,ds,h1,h2,h3,h4⟩:=h 0 (by omega);obtain⟨es,g1,g2,g3⟩:=uz (e:=e) (S:=S) (n:=n) (off:=off+k) fun i hi=>by
   obtain⟨cs,ds,h1,h2,h3,h4⟩:=h (i+1) (by omega);refine⟨cs,ds,h1,fun j v hv=>?_,h3,h4⟩;have:=h2 j v hv
   rwa [show off+(i+1)*k+j=off+k+i*k+j by rw[Nat.add_mul];omega]at this
  refine⟨ds::es,by simp[g1],fun e he=>?_,?_,?_,g3⟩
  ·rcases List.mem_cons.1 he with rfl|he
   ·exact h3
   ·exact g2 e he
  ·rw[<- h4.length,h1]
  ·exact zB h4 fun i v hv=>by simpa using h2 i v hv
theorem Rd.slice{e:TypeId}{S:List D->Prop}(ht:P.underlying t=some (.slice e)){k:Nat}(hk:P.cellsOf e=k)(yX:0<k)(he:Rd P W e S):Rd P W t fun ds=>∃ es,ds = [.vs es] /\ ∀ e∈es,S e:=by
 subst hk;refine⟨?_⟩;intro H enc sp held fuel cs x h;rcases DataW.trod_slice ht h with⟨rfl,_⟩|⟨a,len,cap,elems,rest,n,rfl,rfl,_,_,hl,_,hlen,GY,_,_⟩
 ·exact⟨[.vs []],⟨[],rfl,fun e h=>by(cases h)⟩,_,[],rfl,⟨none,0,0,rfl,rfl,Nat.le_refl _,fun h=>absurd rfl h⟩,rfl⟩
 ·by_cases h0:len=0
  ·subst h0
   exact⟨[.vs []],⟨[],rfl,fun e h=>by(cases h)⟩,_,[],rfl,⟨some a,0,cap,rfl,rfl,hl,fun h=>absurd rfl h⟩,rfl⟩
  have one:∀ i,i<len -> ∃ cs ds,W.cells? 0 (a.add (i*P.cellsOf e)) (P.cellsOf e)=some cs/\S ds/\aN (nN W) W ds cs:=by
   intro i hi;have h1:=GY i hi;rw[List.getElem?_eq_getElem (by omega)]at h1;obtain⟨cs,h2,h3⟩:=Option.bind_eq_some_iff.1 h1;obtain⟨ds,h4,h5⟩:=he.read h3;exact⟨cs,ds,h2,h4,h5⟩
  have hs:a.spot=none:=by
   obtain⟨cs,ds,h1,_,h3⟩:=one 0 (by omega);obtain⟨g1,g2⟩:=nq h1;have dN:0<cs.length:=by omega
   have:=g2 0 cs[0] (List.getElem?_eq_getElem dN);have:=World.cell?_spot this;simpa[Addr.add]using this
  obtain⟨b,off,spot⟩:=a;simp only at hs;subst hs;obtain⟨es,g1,g2,g3⟩:=uz (e:=e) (S:=S) (W:=W) (b:=b) (k:=P.cellsOf e) (n:=len) (off:=off) fun i hi=>by
   obtain⟨cs,ds,h1,h2,h3⟩:=one i hi;obtain⟨k1,k2⟩:=nq h1;refine⟨cs,ds,k1,fun j v hv=>?_,h2,h3⟩;have:=k2 j v hv;have e1:∀ n m:Nat,(Addr.add ⟨b,n,none⟩ m)=⟨b,n+m,none⟩:=by
    intro n m;unfold Addr.add;split
    ·rename_i h;subst h;rfl
    ·rfl
   rw[e1,e1]at this;exact this
  exact⟨[.vs es],⟨es,rfl,g2⟩,_,[],rfl,⟨some ⟨b,off,none⟩,len,cap,rfl,g1.symm,hl,fun _=>⟨b,off,_,rfl,yX,g3⟩⟩,rfl⟩
def DP:List (List D->Prop)->List D->Prop
 | [],ds=>ds = []
 | S::r,ds=>∃ a b,ds=a++b/\S a/\DP r b
theorem aN.app{F:Nat->Nat}{w:World}:∀ {a b:List D} {l m:List Value},aN F w a l->aN F w b m->aN F w (a++b) (l++m)
 | [],b,l,m,h1,h2=>by
  have:l = []:=h1;subst this;exact h2
 | d::a,b,l,m,h1,h2=>by
  obtain⟨x,l',rfl,hd,hl⟩:=h1;exact⟨x,l'++m,rfl,hd,aN.app hl h2⟩
inductive LH(P:Program)(W:World):List Field->Nat->Nat->List (List D->Prop)->Prop where
 | nil (n:Nat):LH P W [] n n []
 | cons {f:Field} {fs:List Field} {off n k:Nat} {S:List D->Prop} {Ss:List (List D->Prop)} (ho:f.offset=off) (hk:P.cellsOf f.type=k) (hf:Rd P W f.type S) (hr:LH P W fs (off+k) n Ss):LH P W (f::fs) off n (S::Ss)
theorem Fz{fs:List Field}{off n:Nat}{Ss:List (List D->Prop)}(h:LH P W fs off n Ss):∀ {H:Type} {enc:TypeId×Value->H} {sp:Nat->Bool} {held:Bool} {fuel:Nat} {cs:List Value} {xs:List (DataW H×List MemPlace)},cs.length=n ->
  fs.mapM (fun f=>DataW.trod enc P W 0 sp held fuel f.type ((cs.drop f.offset).take (P.cellsOf f.type)))=some xs -> ∃ ds,DP Ss ds/\aN (nN W) W ds (cs.drop off):=by
 induction h with
 | nil m=>
  intro H enc sp held fuel cs xs hn _;rw[List.drop_eq_nil_of_le (by omega)];exact⟨[],rfl,rfl⟩
 | @cons f fs off m k S Ss ho hk hf hr ih=>
  intro H enc sp held fuel cs xs hn hm;rw[List.mapM_cons]at hm;simp only[Option.bind_eq_bind,Option.bind_eq_some_iff,Option.pure_def,Option.some.injEq]at hm;obtain⟨y,hy,ys,TU,_⟩:=hm;obtain⟨Mf,h1,h2⟩:=hf.read hy;obtain⟨Mg,h3,h4⟩:=ih hn TU;rw[ho,hk]at h2;refine⟨Mf++Mg,⟨Mf,Mg,rfl,h1,h3⟩,?_⟩;have h5:=aN.app h2 h4
  rwa [show(cs.drop off).take k++cs.drop (off+k)=cs.drop off by rw[<- List.drop_drop];exact List.take_append_drop _ _]at h5
theorem Rd.struct{fs:Array Field}{n:Nat}{Ss:List (List D->Prop)}(ht:P.underlying t=some (.struct fs))(hn:P.cellsOf t=n)(hf:LH P W fs.toList 0 n Ss):Rd P W t (DP Ss):=by
 refine⟨?_⟩;intro H enc sp held fuel cs x h
 cases fuel with
 | zero=>simp[DataW.trod]at h
 | succ fuel=>
  unfold DataW.trod at h;rw[ht]at h;simp only at h;split at h
  ·rename_i hl
   obtain⟨xs,E4,_⟩:=Option.map_eq_some_iff.1 h;obtain⟨ds,h1,h2⟩:=Fz hf (hl.trans hn) E4;exact⟨ds,h1,by simpa using h2⟩
  ·cases h
end
theorem ja{α:Type}{f:α->List D}{S:List D->Prop}(h:∀ ds,S ds -> ∃ a,ds=f a):∀ {es:List (List D)},(∀ e∈es,S e) -> ∃ l:List α,es=l.map f
 | [],_=>⟨[],rfl⟩
 | e::r,he=>by
  obtain⟨a,ha⟩:=h e (he e (by simp));obtain⟨l,hl⟩:=ja h (es:=r) fun x hx=>he x (by simp[hx]);exact⟨a::l,by rw[ha,hl];rfl⟩
def Ik(l:List Nat):Prop:=∀ n∈l,n<=reachBytes
theorem jf{a b:List Nat}:Ik (a++b)↔Ik a/\Ik b:=
 ⟨fun h=>⟨fun n hn=>h n (List.mem_append_left _ hn),fun n hn=>h n (List.mem_append_right _ hn)⟩,fun h n hn=>by
  rcases List.mem_append.1 hn with hn|hn
  ·exact h.1 n hn
  ·exact h.2 n hn⟩
theorem Il{l:List Nat}(h:l.all (· <=reachBytes)=true):Ik l:=fun n hn=>by
 have:=List.all_eq_true.1 h n hn;simpa using this
structure wQ(P:Program)(W:World)(t:TypeId)(S:List D->Prop):Prop where
 read:∀ {H:Type} {enc:TypeId×Value->H} {sp:Nat->Bool} {held:Bool} {fuel:Nat} {cs:List Value} {x:DataW H×List MemPlace},DataW.trod enc P W 0 sp held fuel t cs=some x->Ik (x.1.weights P t) -> ∃ ds,S ds/\aN (nN W) W ds cs
section
variable {P : Program} {W : World} {t : TypeId}
theorem Rd.z{S:List D->Prop}(h:Rd P W t S):wQ P W t S:=⟨fun hx _=>h.read hx⟩
theorem wQ.mono{S S':List D->Prop}(h:wQ P W t S)(hS:∀ ds,S ds->S' ds):wQ P W t S':=by
 refine⟨?_⟩;intro H enc sp held fuel cs x hx hw;obtain⟨ds,h1,h2⟩:=h.read hx hw;exact⟨ds,hS ds h1,h2⟩
theorem jT{H:Type}{e:TypeId}:∀ {l:List (DataW H)} {d:DataW H},d∈l->Ik (DataW.weightsAll P e l)->Ik (d.weights P e)
 | a::r,d,hd,h=>by
  rw[DataW.weightsAll]at h;rcases List.mem_cons.1 hd with rfl|hd
  ·exact(jf.1 h).1
  ·exact jT hd (jf.1 h).2
theorem wQ.slice{e:TypeId}{S:List D->Prop}(ht:P.underlying t=some (.slice e)){k:Nat}(hk:P.cellsOf e=k)(yX:0<k)(he:wQ P W e S) :
  wQ P W t fun ds=>∃ es,ds = [.vs es]/\(∀ e∈es,S e)/\es.length*P.bytesOf e<=reachBytes:=by
 subst hk;refine⟨?_⟩;intro H enc sp held fuel cs x h hw;rcases DataW.trod_slice ht h with⟨rfl,_⟩|⟨a,len,cap,elems,rest,n,rfl,rfl,WJ,_,hl,_,hlen,GY,_,_⟩
 ·exact⟨[.vs []],⟨[],rfl,fun e h=>by(cases h),by simp⟩,_,[],rfl,⟨none,0,0,rfl,rfl,Nat.le_refl _,fun h=>absurd rfl h⟩,rfl⟩
 ·by_cases h0:len=0
  ·subst h0
   exact⟨[.vs []],⟨[],rfl,fun e h=>by(cases h),by simp⟩,_,[],rfl,⟨some a,0,cap,rfl,rfl,hl,fun h=>absurd rfl h⟩,rfl⟩
  subst WJ;rw[DataW.weights,ht]at hw;have cM:len*P.bytesOf e<=reachBytes:=by
   have:=hw ((elems.length+rest.length)*P.bytesOf e) (by simp);have h2:len*P.bytesOf e<=(elems.length+rest.length)*P.bytesOf e:=Nat.mul_le_mul_right _ (by omega);omega
  have WG:Ik (DataW.weightsAll P e (elems.map (·.1))):=by
   intro n hn;exact hw n (by simp;right;left;simpa using hn)
  have one:∀ i,i<len -> ∃ cs ds,W.cells? 0 (a.add (i*P.cellsOf e)) (P.cellsOf e)=some cs/\S ds/\aN (nN W) W ds cs:=by
   intro i hi;have h1:=GY i hi;have EJ:elems[i]?=some elems[i]:=List.getElem?_eq_getElem (by omega);rw[EJ]at h1;obtain⟨cs,h2,h3⟩:=Option.bind_eq_some_iff.1 h1;obtain⟨ds,h4,h5⟩:=he.read h3 (jT (List.mem_map.2 ⟨_,List.mem_of_getElem? EJ,rfl⟩) WG);exact⟨cs,ds,h2,h4,h5⟩
  have hs:a.spot=none:=by
   obtain⟨cs,ds,h1,_,h3⟩:=one 0 (by omega);obtain⟨g1,g2⟩:=nq h1;have dN:0<cs.length:=by omega
   have:=g2 0 cs[0] (List.getElem?_eq_getElem dN);have:=World.cell?_spot this;simpa[Addr.add]using this
  obtain⟨b,off,spot⟩:=a;simp only at hs;subst hs;obtain⟨es,g1,g2,g3⟩:=uz (e:=e) (S:=S) (W:=W) (b:=b) (k:=P.cellsOf e) (n:=len) (off:=off) fun i hi=>by
   obtain⟨cs,ds,h1,h2,h3⟩:=one i hi;obtain⟨k1,k2⟩:=nq h1;refine⟨cs,ds,k1,fun j v hv=>?_,h2,h3⟩;have:=k2 j v hv;have e1:∀ n m:Nat,(Addr.add ⟨b,n,none⟩ m)=⟨b,n+m,none⟩:=by
    intro n m;unfold Addr.add;split
    ·rename_i h;subst h;rfl
    ·rfl
   rw[e1,e1]at this;exact this
  exact⟨[.vs es],⟨es,rfl,g2,by rw[g1];exact cM⟩,_,[],rfl,⟨some ⟨b,off,none⟩,len,cap,rfl,g1.symm,hl,fun _=>⟨b,off,_,rfl,yX,g3⟩⟩,rfl⟩
inductive DT(P:Program)(W:World):List Field->Nat->Nat->List (List D->Prop)->Prop where
 | nil (n:Nat):DT P W [] n n []
 | cons {f:Field} {fs:List Field} {off n k:Nat} {S:List D->Prop} {Ss:List (List D->Prop)} (ho:f.offset=off) (hk:P.cellsOf f.type=k) (hf:wQ P W f.type S) (hr:DT P W fs (off+k) n Ss):DT P W (f::fs) off n (S::Ss)
theorem Dn{fs:List Field}{off n:Nat}{Ss:List (List D->Prop)}(h:DT P W fs off n Ss):∀ {H:Type} {enc:TypeId×Value->H} {sp:Nat->Bool} {held:Bool} {fuel:Nat} {cs:List Value} {xs:List (DataW H×List MemPlace)},cs.length=n ->
  fs.mapM (fun f=>DataW.trod enc P W 0 sp held fuel f.type ((cs.drop f.offset).take (P.cellsOf f.type)))=some xs->Ik (DataW.weightsEach P (fs.map (·.type)) (xs.map (·.1))) -> ∃ ds,DP Ss ds/\aN (nN W) W ds (cs.drop off):=by
 induction h with
 | nil m=>
  intro H enc sp held fuel cs xs hn _ _;rw[List.drop_eq_nil_of_le (by omega)];exact⟨[],rfl,rfl⟩
 | @cons f fs off m k S Ss ho hk hf hr ih=>
  intro H enc sp held fuel cs xs hn hm hw;rw[List.mapM_cons]at hm;simp only[Option.bind_eq_bind,Option.bind_eq_some_iff,Option.pure_def,Option.some.injEq]at hm;obtain⟨y,hy,ys,TU,rfl⟩:=hm;rw[List.map_cons,List.map_cons,DataW.weightsEach]at hw;obtain⟨WE,IY⟩:=jf.1 hw;obtain⟨Mf,h1,h2⟩:=hf.read hy WE;obtain⟨Mg,h3,h4⟩:=ih hn TU IY;rw[ho,hk]at h2;refine⟨Mf++Mg,⟨Mf,Mg,rfl,h1,h3⟩,?_⟩;have h5:=aN.app h2 h4
  rwa [show(cs.drop off).take k++cs.drop (off+k)=cs.drop off by rw[<- List.drop_drop];exact List.take_append_drop _ _]at h5
theorem wQ.struct{fs:Array Field}{n:Nat}{Ss:List (List D->Prop)}(ht:P.underlying t=some (.struct fs))(hn:P.cellsOf t=n)(hf:DT P W fs.toList 0 n Ss):wQ P W t (DP Ss):=by
 refine⟨?_⟩;intro H enc sp held fuel cs x h hw
 cases fuel with
 | zero=>simp[DataW.trod]at h
 | succ fuel=>
  unfold DataW.trod at h;rw[ht]at h;simp only at h;split at h
  ·rename_i hl
   obtain⟨xs,E4,rfl⟩:=Option.map_eq_some_iff.1 h;simp only at hw;rw[DataW.weights,ht]at hw;obtain⟨ds,h1,h2⟩:=Dn hf (hl.trans hn) E4 hw;exact⟨ds,h1,by simpa using h2⟩
  ·cases h
theorem wQ.array{e:TypeId}{n k:Nat}{S:List D->Prop}(ht:P.underlying t=some (.array n e))(hn:P.cellsOf t=n*k)(hk:P.cellsOf e=k)(he:wQ P W e S) :
  wQ P W t fun ds=>∃ BF:List (List D),ds=BF.flatten/\BF.length=n /\ ∀ d∈BF,S d:=by
 refine⟨?_⟩;intro H enc sp held fuel cs x h hw
 cases fuel with
 | zero=>simp[DataW.trod]at h
 | succ fuel=>
  unfold DataW.trod at h;rw[ht]at h;simp only at h;split at h
  ·rename_i hl
   obtain⟨xs,E4,rfl⟩:=Option.map_eq_some_iff.1 h;simp only at hw;rw[DataW.weights,ht]at hw;rw[hk]at E4;have hlen:xs.length=n:=by simpa using mapM_some_length E4
   have step:∀ m,m<=n -> ∃ BF:List (List D),BF.length=m/\(∀ d∈BF,S d)/\aN (nN W) W BF.flatten (cs.take (m*k)):=by
    intro m
    induction m with
    | zero=>intro _;exact⟨[],rfl,fun d h=>by(cases h),by rw[Nat.zero_mul];exact(List.take_zero:cs.take 0 = [])⟩
    | succ m ih=>
     intro hm;obtain⟨BF,h1,h2,h3⟩:=ih (by omega);have hg:=mapM_some_get E4 m m (by rw[List.getElem?_range (by omega)]);have EJ:xs[m]?=some xs[m]:=List.getElem?_eq_getElem (by omega);rw[EJ]at hg;obtain⟨d,h4,h5⟩:=he.read hg (jT (List.mem_map.2 ⟨_,List.mem_of_getElem? EJ,rfl⟩) hw);refine⟨BF ++ [d],by simp[h1],fun u hu=>?_,?_⟩
     ·rcases List.mem_append.1 hu with hu|hu
      ·exact h2 u hu
      ·rw[List.mem_singleton]at hu;subst hu;exact h4
     ·rw[Nat.add_mul,Nat.one_mul,List.take_add]
      simpa using aN.app h3 h5
   obtain⟨BF,h1,h2,h3⟩:=step n (Nat.le_refl _);refine⟨BF.flatten,⟨BF,rfl,h1,h2⟩,?_⟩
   rwa [List.take_of_length_le (by omega)]at h3
  ·cases h
end
end Go.PX
namespace Go.PX
def tys:dJ:=(.nd (.nd (.nd (.nd (.nd (.nd (.nd .lf 3
 ⟨1,8,.int .i64,false,false,some [.int .i64 0]⟩
 .lf) 4
 ⟨1,1,.bool,false,false,some [.bool false]⟩
 .lf) 5
 ⟨1,1,.int .u8,false,false,some [.int .u8 0]⟩
 (.nd (.nd .lf 9
 { size:=1,bytes:=16,kd:=.str,isAgg:=false,held:=false,zero:=some [.str ⟨#[]⟩] }
 .lf) 21
 ⟨1,4,.int .i32,false,false,some [.int .i32 0]⟩
 .lf)) 22
 ⟨1,24,.slice 71,false,false,some [.nils]⟩
 (.nd (.nd (.nd .lf 24
 ⟨2,16,.struct [(0,3),(1,3)],true,false,some [.int .i64 0,.int .i64 0]⟩
 .lf) 25
 ⟨1,24,.slice 145,false,false,some [.nils]⟩
 .lf) 27
 ⟨7,88,.struct [(0,22),(1,3),(2,3),(3,3),(4,24),(6,25)],true,false,some [.nils,.int .i64 0,.int .i64 0,.int .i64 0,.int .i64 0,.int .i64 0,.nils]⟩
 (.nd .lf 29
 ⟨4,32,.struct [(0,3),(1,3),(2,3),(3,3)],true,false,some [.int .i64 0,.int .i64 0,.int .i64 0,.int .i64 0]⟩
 .lf))) 30
 ⟨1,24,.slice 74,false,false,some [.nils]⟩
 (.nd (.nd (.nd (.nd .lf 32
 ⟨13,152,.struct [(0,27),(7,29),(11,3),(12,30)],true,false,some [.nils,.int .i64 0,.int .i64 0,.int .i64 0,.int .i64 0,.int .i64 0,.nils,.int .i64 0,.int .i64 0,.int .i64 0,.int .i64 0,.int .i64 0,.nils]⟩
 .lf) 33
 ⟨1,24,.slice 149,false,false,some [.nils]⟩
 .lf) 34
 ⟨1,24,.slice 152,false,false,some [.nils]⟩
 (.nd .lf 36
 ⟨2,48,.struct [(0,33),(1,34)],true,false,some [.nils,.nils]⟩
 .lf)) 38
 ⟨4,32,.struct [(0,24),(2,24)],true,false,some [.int .i64 0,.int .i64 0,.int .i64 0,.int .i64 0]⟩
 (.nd (.nd (.nd .lf 40
 ⟨9,104,.struct [(0,36),(2,38),(6,24),(8,3)],true,false,some [.nils,.nils,.int .i64 0,.int .i64 0,.int .i64 0,.int .i64 0,.int .i64 0,.int .i64 0,.int .i64 0]⟩
 .lf) 41
 ⟨2,2,.array 2 5,true,false,some [.int .u8 0,.int .u8 0]⟩
 .lf) 42
 ⟨1,24,.slice 123,false,false,some [.nils]⟩
 (.nd .lf 44
 ⟨3,32,.struct [(0,41),(2,42)],true,false,some [.int .u8 0,.int .u8 0,.nils]⟩
 .lf)))) 45
 ⟨1,8,.int .i64,false,false,some [.int .i64 0]⟩
 (.nd (.nd (.nd (.nd (.nd .lf 55
 ⟨1,24,.slice 104,false,false,some [.nils]⟩
 .lf) 56
 ⟨1,24,.slice 60,false,false,some [.nils]⟩
 .lf) 60
 ⟨2,16,.struct [(0,3),(1,3)],true,false,some [.int .i64 0,.int .i64 0]⟩
 (.nd (.nd .lf 69
 ⟨1,24,.slice 163,false,false,some [.nils]⟩
 .lf) 71
 { size:=8,bytes:=88,kd:=(.struct [(0,9),(1,3),(2,3),(3,24),(5,24),(7,69)]),isAgg:=true,held:=false,zero:=some [.str ⟨#[]⟩,.int .i64 0,.int .i64 0,.int .i64 0,.int .i64 0,.int .i64 0,.int .i64 0,.nils] }
 .lf)) 74
 ⟨8,64,.struct [(0,24),(2,24),(4,24),(6,24)],true,false,some [.int .i64 0,.int .i64 0,.int .i64 0,.int .i64 0,.int .i64 0,.int .i64 0,.int .i64 0,.int .i64 0]⟩
 (.nd (.nd (.nd .lf 81
 ⟨1,24,.slice 3,false,false,some [.nils]⟩
 .lf) 87
 ⟨6,64,.struct [(0,3),(1,3),(2,3),(3,3),(4,3),(5,81)],true,false,some [.int .i64 0,.int .i64 0,.int .i64 0,.int .i64 0,.int .i64 0,.nils]⟩
 .lf) 92
 ⟨1,24,.slice 24,false,false,some [.nils]⟩
 (.nd .lf 104
 ⟨7,56,.struct [(0,3),(1,3),(2,3),(3,38)],true,false,some [.int .i64 0,.int .i64 0,.int .i64 0,.int .i64 0,.int .i64 0,.int .i64 0,.int .i64 0]⟩
 .lf))) 114
 ⟨1,8,.other,false,false,some [.nilp]⟩
 (.nd (.nd (.nd (.nd .lf 123
 ⟨1,2,.int .u16,false,false,some [.int .u16 0]⟩
 .lf) 127
 ⟨1,8,.int .u64,false,false,some [.int .u64 0]⟩
 .lf) 129
 ⟨5,40,.array 5 127,true,false,some [.int .u64 0,.int .u64 0,.int .u64 0,.int .u64 0,.int .u64 0]⟩
 (.nd .lf 131
 ⟨14,144,.struct [(0,40),(9,129)],true,false,some [.nils,.nils,.int .i64 0,.int .i64 0,.int .i64 0,.int .i64 0,.int .i64 0,.int .i64 0,.int .i64 0,.int .u64 0,.int .u64 0,.int .u64 0,.int .u64 0,.int .u64 0]⟩
 .lf)) 132
 ⟨1,24,.slice 129,false,false,some [.nils]⟩
 (.nd (.nd (.nd .lf 135
 ⟨1,8,.other,false,false,some [.nilf]⟩
 .lf) 137
 ⟨1,8,.other,false,false,some [.nilf]⟩
 .lf) 138
 ⟨1,8,.other,false,false,some [.nilf]⟩
 (.nd .lf 140
 ⟨1,8,.other,false,false,some [.nilf]⟩
 .lf))))) 141
 ⟨1,24,.slice 9,false,false,some [.nils]⟩
 (.nd (.nd (.nd (.nd (.nd (.nd .lf 145
 ⟨2,16,.struct [(0,3),(1,3)],true,false,some [.int .i64 0,.int .i64 0]⟩
 .lf) 146
 ⟨1,24,.slice 45,false,false,some [.nils]⟩
 .lf) 147
 ⟨1,24,.slice 202,false,false,some [.nils]⟩
 (.nd (.nd .lf 149
 { size:=4,bytes:=56,kd:=(.struct [(0,9),(1,60),(3,147)]),isAgg:=true,held:=false,zero:=some [.str ⟨#[]⟩,.int .i64 0,.int .i64 0,.nils] }
 .lf) 152
 { size:=6,bytes:=72,kd:=(.struct [(0,9),(1,56),(2,38)]),isAgg:=true,held:=false,zero:=some [.str ⟨#[]⟩,.nils,.int .i64 0,.int .i64 0,.int .i64 0,.int .i64 0] }
 .lf)) 156
 { size:=9,bytes:=96,kd:=(.struct [(0,71),(8,3)]),isAgg:=true,held:=false,zero:=some [.str ⟨#[]⟩,.int .i64 0,.int .i64 0,.int .i64 0,.int .i64 0,.int .i64 0,.int .i64 0,.nils,.int .i64 0] }
 (.nd (.nd (.nd .lf 163
 ⟨2,16,.struct [(0,3),(1,3)],true,false,some [.int .i64 0,.int .i64 0]⟩
 .lf) 168
 ⟨1,8,.other,false,false,some [.nilf]⟩
 .lf) 170
 ⟨1,8,.map 3 24,false,false,some [.nilm]⟩
 (.nd .lf 172
 ⟨15,184,.struct [(0,32),(13,92),(14,170)],true,false,some [.nils,.int .i64 0,.int .i64 0,.int .i64 0,.int .i64 0,.int .i64 0,.nils,.int .i64 0,.int .i64 0,.int .i64 0,.int .i64 0,.int .i64 0,.nils,.nils,.nilm]⟩
 .lf))) 174
 ⟨10,96,.struct [(0,29),(4,87)],true,false,some [.int .i64 0,.int .i64 0,.int .i64 0,.int .i64 0,.int .i64 0,.int .i64 0,.int .i64 0,.int .i64 0,.int .i64 0,.nils]⟩
 (.nd (.nd (.nd (.nd .lf 180
 ⟨1,24,.slice 4,false,false,some [.nils]⟩
 .lf) 182
 ⟨1,8,.other,false,false,some [.nilf]⟩
 .lf) 193
 ⟨1,8,.other,false,false,some [.nilf]⟩
 (.nd .lf 199
 ⟨1,8,.other,false,false,some [.nilf]⟩
 .lf)) 202
 ⟨2,16,.struct [(0,3),(1,3)],true,false,some [.int .i64 0,.int .i64 0]⟩
 (.nd (.nd (.nd .lf 206
 ⟨1,8,.other,false,false,some [.nilf]⟩
 .lf) 207
 ⟨1,8,.other,false,false,some [.nilf]⟩
 .lf) 210
 ⟨3,24,.struct [(0,3),(1,24)],true,false,some [.int .i64 0,.int .i64 0,.int .i64 0]⟩
 (.nd .lf 212
 ⟨1,8,.other,false,false,some [.nilf]⟩
 .lf)))) 216
 ⟨1,8,.other,false,false,some [.nilf]⟩
 (.nd (.nd (.nd (.nd (.nd .lf 217
 ⟨2,16,.array 2 216,true,false,some [.nilf,.nilf]⟩
 .lf) 226
 ⟨1,8,.other,false,false,some [.nilf]⟩
 .lf) 227
 ⟨1,8,.other,false,false,some [.nilf]⟩
 (.nd .lf 232
 { size:=6,bytes:=72,kd:=(.struct [(0,152)]),isAgg:=true,held:=false,zero:=some [.str ⟨#[]⟩,.nils,.int .i64 0,.int .i64 0,.int .i64 0,.int .i64 0] }
 .lf)) 234
 ⟨2,16,.struct [(0,3),(1,3)],true,false,some [.int .i64 0,.int .i64 0]⟩
 (.nd (.nd (.nd .lf 238
 ⟨1,8,.other,false,false,some [.nilf]⟩
 .lf) 241
 ⟨1,8,.other,false,false,some [.nilf]⟩
 .lf) 242
 ⟨1,8,.other,false,false,some [.nilf]⟩
 (.nd .lf 243
 ⟨1,8,.other,false,false,some [.nilf]⟩
 .lf))) 245
 ⟨1,8,.other,false,false,some [.nilp]⟩
 (.nd (.nd (.nd (.nd .lf 246
 ⟨16,128,.array 8 60,true,false,some (List.replicate 16 (.int .i64 0))⟩
 .lf) 249
 ⟨1,8,.other,false,false,some [.nilf]⟩
 .lf) 250
 ⟨1,8,.other,false,false,some [.nilf]⟩
 (.nd .lf 253
 ⟨4,32,.struct [(0,60),(2,60)],true,false,some [.int .i64 0,.int .i64 0,.int .i64 0,.int .i64 0]⟩
 .lf)) 256
 ⟨1,8,.other,false,false,some [.nilf]⟩
 (.nd (.nd (.nd .lf 257
 ⟨1,8,.map 9 3,false,false,some [.nilm]⟩
 .lf) 258
 ⟨1,8,.other,false,false,some [.nilf]⟩
 .lf) 260
 ⟨1,8,.other,false,false,some [.nilf]⟩
 (.nd .lf 261
 ⟨1,8,.other,false,false,some [.nilf]⟩
 .lf))))))
def Vt:FT:=⟨[0,1,2,3,4,5,6,9,11,12,13,14,17,18,21,22,23,24,25,26,27,29,30,31,32,33,50,61,102,104,119,142,174,190],[(22,⟨[27],[⟨[24],[]⟩,⟨[26],[0]⟩,⟨[145,146],[]⟩,⟨[147],[]⟩,⟨[25],[0,1,2,3]⟩,⟨[148,149],[]⟩,⟨[],[0,1,2,3,4,5]⟩,⟨[27,150],[]⟩]⟩),(31,⟨[],[⟨[32],[]⟩,⟨[193],[]⟩,⟨[30,194],[]⟩,⟨[33,194],[2]⟩,⟨[194,195,196],[]⟩,⟨[194,197],[]⟩,⟨[25,194],[2,3,4,5]⟩,⟨[194,198,199],[]⟩,⟨[194,200],[]⟩,⟨[201],[]⟩]⟩)]⟩
def Vu:FT:=⟨[0,1,2,3,4,5,6,7,8,9,10,11,20,47,51,57,69,74,79,89],[(12,⟨[],[⟨[1],[]⟩,⟨[60],[]⟩,⟨[1],[0,1]⟩,⟨[62],[0,1]⟩,⟨[63],[0,1]⟩,⟨[9],[0,1,2,3,4]⟩,⟨[64,65],[0,1]⟩,⟨[66],[0,1]⟩,⟨[67],[0,1]⟩,⟨[61,68],[]⟩]⟩)]⟩
def Vv:FT:=⟨[0,1,2,3,6,15,21,33,35],[]⟩
def Vw:FT:=⟨[0,1,2,3,4,5,6,7,8,9,10,11,12,13,16,17,18,20,21,23,24,25,26,27,28,29,30,32,34],[(14,⟨[166,210],[⟨[2],[]⟩,⟨[109],[]⟩,⟨[110],[]⟩,⟨[4,111],[]⟩,⟨[111,112],[]⟩,⟨[111,113],[]⟩,⟨[114],[]⟩,⟨[6,115],[]⟩,⟨[115,116],[]⟩,⟨[115,117],[]⟩,⟨[118],[]⟩,⟨[8,119],[]⟩,⟨[119,120],[]⟩,⟨[119,121],[]⟩,⟨[122],[]⟩,⟨[12,123],[]⟩,⟨[123,124],[]⟩,⟨[123,125],[]⟩,⟨[126],[]⟩,⟨[16,127],[]⟩,⟨[127,128],[]⟩,⟨[127,129],[]⟩,⟨[130],[]⟩,⟨[20,131],[]⟩,⟨[131,132],[]⟩,⟨[131,133],[]⟩,⟨[134],[]⟩,⟨[23,135],[]⟩,⟨[135,136],[]⟩,⟨[135,137],[]⟩,⟨[138],[]⟩,⟨[25,139],[]⟩,⟨[139,140],[]⟩,⟨[139,141],[]⟩,⟨[142],[]⟩,⟨[27,143],[]⟩,⟨[143,144],[]⟩,⟨[143,145],[]⟩,⟨[146],[]⟩,⟨[30,147],[]⟩,⟨[147,148],[]⟩,⟨[147,149],[]⟩,⟨[150],[]⟩,⟨[32,151],[]⟩,⟨[151,152],[]⟩,⟨[151,153],[]⟩,⟨[154],[]⟩,⟨[34,155],[]⟩,⟨[155,156],[]⟩,⟨[155,157],[]⟩,⟨[158],[]⟩,⟨[1,159],[]⟩,⟨[159],[51]⟩,⟨[159,160,161],[]⟩,⟨[159,162],[]⟩,⟨[163],[]⟩,⟨[3,164],[]⟩,⟨[164],[56]⟩,⟨[164,165,166],[]⟩,⟨[164,167],[]⟩,⟨[168],[]⟩,⟨[5,169],[]⟩,⟨[169],[61]⟩,⟨[169,170,171],[]⟩,⟨[169,172],[]⟩,⟨[173],[]⟩,⟨[7,174],[]⟩,⟨[174,175],[]⟩,⟨[174,176],[]⟩,⟨[177],[]⟩,⟨[9,178],[]⟩,⟨[178,179],[]⟩,⟨[178,180],[]⟩,⟨[181],[]⟩,⟨[10,182],[]⟩,⟨[182,183],[]⟩,⟨[182,184],[]⟩,⟨[185],[]⟩,⟨[11,186],[]⟩,⟨[186,187],[]⟩,⟨[186,188],[]⟩,⟨[189],[]⟩,⟨[13,190],[]⟩,⟨[190,191],[]⟩,⟨[190,192],[]⟩,⟨[193],[]⟩,⟨[17,194],[]⟩,⟨[194],[86]⟩,⟨[194,195,196],[]⟩,⟨[194,197],[]⟩,⟨[198],[]⟩,⟨[18,199],[]⟩,⟨[199,200],[]⟩,⟨[199,201],[]⟩,⟨[202],[]⟩,⟨[21,203],[]⟩,⟨[203,204],[]⟩,⟨[203,205],[]⟩,⟨[206],[]⟩,⟨[24,207],[]⟩,⟨[207],[99]⟩,⟨[207,209],[99]⟩,⟨[207,208,210],[]⟩,⟨[207,211],[]⟩,⟨[212],[]⟩,⟨[26,213],[]⟩,⟨[213,214],[]⟩,⟨[213,215],[]⟩,⟨[216],[]⟩,⟨[28,217],[]⟩,⟨[217,218],[]⟩,⟨[217,219],[]⟩,⟨[217,220],[]⟩,⟨[221],[]⟩,⟨[29,222],[]⟩,⟨[222,223],[]⟩,⟨[222,224],[]⟩,⟨[225],[]⟩]⟩)]⟩
def Vx:FT:=⟨[0,1,2,3,4,5,6,7,8,9,10,11,12,13,14,15,16,17,18,19,21],[(2,⟨[],[⟨[1],[]⟩,⟨[],[0]⟩,⟨[],[0]⟩,⟨[],[0]⟩,⟨[28,29,30,31],[]⟩,⟨[32],[]⟩,⟨[27],[]⟩,⟨[27],[6]⟩,⟨[33],[7]⟩,⟨[34],[]⟩]⟩),(3,⟨[],[⟨[1],[]⟩,⟨[],[0]⟩,⟨[],[0]⟩,⟨[],[0]⟩,⟨[36,37,38,39],[]⟩,⟨[40],[]⟩,⟨[35],[]⟩,⟨[35],[6]⟩,⟨[41],[7]⟩,⟨[42],[]⟩]⟩),(4,⟨[],[⟨[1],[]⟩,⟨[2],[0]⟩,⟨[45],[0]⟩,⟨[44,46],[]⟩,⟨[47],[]⟩,⟨[43],[]⟩,⟨[43],[5]⟩,⟨[48],[6]⟩,⟨[49],[]⟩]⟩),(7,⟨[],[⟨[1],[]⟩,⟨[],[0]⟩,⟨[63,64],[]⟩,⟨[65],[]⟩,⟨[62],[]⟩,⟨[62],[4]⟩,⟨[66],[5]⟩,⟨[67],[]⟩]⟩),(8,⟨[15],[⟨[1],[]⟩,⟨[],[0]⟩,⟨[69,70],[]⟩,⟨[71],[]⟩,⟨[68],[]⟩,⟨[68],[4]⟩,⟨[68],[4,5]⟩,⟨[],[0,1,2,3,4,5,6]⟩,⟨[15,72],[5,6]⟩,⟨[73],[6]⟩,⟨[74],[]⟩]⟩),(10,⟨[85],[⟨[1],[]⟩,⟨[],[0]⟩,⟨[],[0]⟩,⟨[83,84],[0]⟩,⟨[82,85],[]⟩,⟨[86],[]⟩,⟨[81],[]⟩,⟨[81],[6]⟩,⟨[87],[7]⟩,⟨[88],[]⟩]⟩),(11,⟨[136,145,152,166],[⟨[4],[]⟩,⟨[89],[]⟩,⟨[90],[]⟩,⟨[6,91],[]⟩,⟨[91,92],[]⟩,⟨[91,93],[]⟩,⟨[94],[]⟩,⟨[8,95],[]⟩,⟨[95,96],[]⟩,⟨[95,97],[]⟩,⟨[98],[]⟩,⟨[10,99],[]⟩,⟨[99,100],[]⟩,⟨[99,101],[]⟩,⟨[102],[]⟩,⟨[12,103],[]⟩,⟨[103,104],[]⟩,⟨[103,105],[]⟩,⟨[106],[]⟩,⟨[14,107],[]⟩,⟨[107,108],[]⟩,⟨[107,109],[]⟩,⟨[110],[]⟩,⟨[17,111],[]⟩,⟨[111,112],[]⟩,⟨[111,113],[]⟩,⟨[114],[]⟩,⟨[19,115],[]⟩,⟨[115,116],[]⟩,⟨[115,117],[]⟩,⟨[118],[]⟩,⟨[21,119],[]⟩,⟨[119,120],[]⟩,⟨[119,121],[]⟩,⟨[122],[]⟩,⟨[3,123],[]⟩,⟨[123,124],[]⟩,⟨[125],[]⟩,⟨[5,126],[]⟩,⟨[126,127],[]⟩,⟨[126,128],[]⟩,⟨[129],[]⟩,⟨[7,130],[]⟩,⟨[130],[42]⟩,⟨[130],[42]⟩,⟨[130],[42]⟩,⟨[130],[42]⟩,⟨[130,132,133,134,135],[42]⟩,⟨[130,131,136],[]⟩,⟨[130,137],[]⟩,⟨[138],[]⟩,⟨[9,139],[]⟩,⟨[139,140],[]⟩,⟨[139,141],[]⟩,⟨[142],[]⟩,⟨[11,143],[]⟩,⟨[143],[55]⟩,⟨[143,144,145],[]⟩,⟨[143,146],[]⟩,⟨[147],[]⟩,⟨[13,148],[]⟩,⟨[148],[60]⟩,⟨[148],[60]⟩,⟨[148,150,151],[60]⟩,⟨[148,149,152],[]⟩,⟨[148,153],[]⟩,⟨[154],[]⟩,⟨[15,155],[]⟩,⟨[155],[67]⟩,⟨[155,156,157],[]⟩,⟨[155,158],[]⟩,⟨[159],[]⟩,⟨[16,160],[]⟩,⟨[160,161],[]⟩,⟨[160,162],[]⟩,⟨[163],[]⟩,⟨[18,164],[]⟩,⟨[164],[76]⟩,⟨[164,165,166],[]⟩,⟨[164,167],[]⟩,⟨[168],[]⟩]⟩)]⟩
def Vy:FT:=⟨[0,1,2,3,6,7,8,22,28],[]⟩
def Vz:FT:=⟨[0,1,2,4,5,6,7,8,18],[(1,⟨[],[⟨[2],[]⟩,⟨[2],[0]⟩,⟨[1],[0,1]⟩,⟨[11,12],[0]⟩,⟨[10,13],[]⟩,⟨[14],[]⟩,⟨[9],[]⟩,⟨[9],[6]⟩,⟨[15],[7]⟩,⟨[16],[]⟩]⟩)]⟩
def Q5:FT:=⟨[0,1,2,3,4,9],[]⟩
def Q6:FT:=⟨[0,1,2,3,4,5,6,7,8,9,10,11,12,13,14,15,16,17,31,61,72],[(7,⟨[10],[⟨[2],[]⟩,⟨[3],[0]⟩,⟨[36],[0]⟩,⟨[9],[0,1,2]⟩,⟨[37,38],[0]⟩,⟨[39],[0]⟩,⟨[40],[0]⟩,⟨[3],[0,1,2,3,4,5,6]⟩,⟨[42],[0,1,2,3,4,5,6]⟩,⟨[9],[0,1,2,3,4,5,6,7,8]⟩,⟨[44],[0,1,2,3,4,5,6,7,8]⟩,⟨[43,45],[0,1,2,3,4,5,6]⟩,⟨[46],[0,1,2,3,4,5,6]⟩,⟨[47],[0,1,2,3,4,5,6]⟩,⟨[35,41,48],[]⟩,⟨[49],[]⟩,⟨[34],[]⟩,⟨[34],[16]⟩,⟨[],[0,1,2,3,4,5,6,7,8,9,10,11,12,13,14,15,16,17]⟩,⟨[10,50],[17]⟩,⟨[51],[]⟩]⟩),(10,⟨[],[⟨[3],[]⟩,⟨[62],[]⟩,⟨[9],[0,1]⟩,⟨[64],[0,1]⟩,⟨[63,65],[]⟩,⟨[66],[]⟩,⟨[67],[]⟩,⟨[68],[]⟩,⟨[],[0,1,2,3,4,5,6,7]⟩,⟨[69],[]⟩]⟩),(15,⟨[17],[⟨[12],[]⟩,⟨[85],[]⟩,⟨[16],[0,1]⟩,⟨[86,87],[]⟩,⟨[88],[]⟩,⟨[12],[0,1,2,3,4]⟩,⟨[90],[0,1,2,3,4]⟩,⟨[16],[0,1,2,3,4,5,6]⟩,⟨[91,92],[0,1,2,3,4]⟩,⟨[15],[0,1,2,3,4,5,6,7,8]⟩,⟨[93,94],[0,1,2,3,4]⟩,⟨[95],[0,1,2,3,4]⟩,⟨[89,96],[]⟩,⟨[12],[0,1,2,3,4,5,6,7,8,9,10,11,12]⟩,⟨[98],[0,1,2,3,4,5,6,7,8,9,10,11,12]⟩,⟨[16],[0,1,2,3,4,5,6,7,8,9,10,11,12,13,14]⟩,⟨[99,100],[0,1,2,3,4,5,6,7,8,9,10,11,12]⟩,⟨[101],[0,1,2,3,4,5,6,7,8,9,10,11,12]⟩,⟨[12],[0,1,2,3,4,5,6,7,8,9,10,11,12,13,14,15,16,17]⟩,⟨[103],[0,1,2,3,4,5,6,7,8,9,10,11,12,13,14,15,16,17]⟩,⟨[16],[0,1,2,3,4,5,6,7,8,9,10,11,12,13,14,15,16,17,18,19]⟩,⟨[104,105],[0,1,2,3,4,5,6,7,8,9,10,11,12,13,14,15,16,17]⟩,⟨[15],[0,1,2,3,4,5,6,7,8,9,10,11,12,13,14,15,16,17,18,19,20,21]⟩,⟨[106,107],[0,1,2,3,4,5,6,7,8,9,10,11,12,13,14,15,16,17]⟩,⟨[108],[0,1,2,3,4,5,6,7,8,9,10,11,12,13,14,15,16,17]⟩,⟨[102,109],[]⟩,⟨[97,110],[]⟩,⟨[],[0,1,2,3,4,5,6,7,8,9,10,11,12,13,14,15,16,17,18,19,20,21,22,23,24,25,26]⟩,⟨[17,111],[]⟩]⟩)]⟩
def Q7:FT:=⟨[0,1,2,3,4],[(1,⟨[],[⟨[2],[]⟩,⟨[5],[]⟩,⟨[6],[]⟩,⟨[3],[0,1,2]⟩,⟨[8],[0,1,2]⟩,⟨[9],[0,1,2]⟩,⟨[10],[0,1,2]⟩,⟨[7,11],[]⟩,⟨[2],[0,1,2,3,4,5,6,7]⟩,⟨[13],[0,1,2,3,4,5,6,7]⟩,⟨[14],[0,1,2,3,4,5,6,7]⟩,⟨[3],[0,1,2,3,4,5,6,7,8,9,10]⟩,⟨[16],[0,1,2,3,4,5,6,7,8,9,10]⟩,⟨[17],[0,1,2,3,4,5,6,7,8,9,10]⟩,⟨[18],[0,1,2,3,4,5,6,7,8,9,10]⟩,⟨[15,19],[]⟩,⟨[12,20],[]⟩,⟨[4,21],[]⟩]⟩)]⟩
def Q8:FT:=⟨[0,1,2,3,4],[]⟩
def Q9:FT:=⟨[0,1,2,4,5,6,7,8,9,10,11,20,24,25,26,27,36],[]⟩
def Ra:FT:=⟨[0,1,2,4,5,6,7,8,9,10,19,27,28,29,32],[]⟩
def Rb:FT:=⟨[0,1,2,3,4,5,6,7,8,9,10,22,41,43,49,70,78,85,102,129],[(24,⟨[],[⟨[9],[]⟩,⟨[104],[]⟩,⟨[105],[]⟩,⟨[10,106],[]⟩,⟨[106,107],[]⟩,⟨[1,106],[3,4]⟩,⟨[106,109],[3,4]⟩,⟨[9,106],[3,4,5,6]⟩,⟨[106,111],[3,4,5,6]⟩,⟨[106,110,112],[3,4]⟩,⟨[106,113],[3,4]⟩,⟨[106,114],[3,4]⟩,⟨[106,108,115],[]⟩,⟨[106,116],[]⟩,⟨[10,117],[]⟩,⟨[117,118],[]⟩,⟨[1,117],[14,15]⟩,⟨[117,120],[14,15]⟩,⟨[9,117],[14,15,16,17]⟩,⟨[117,122],[14,15,16,17]⟩,⟨[117,121,123],[14,15]⟩,⟨[117,124],[14,15]⟩,⟨[117,125],[14,15]⟩,⟨[117,119,126],[]⟩,⟨[106,117,127],[]⟩,⟨[106,128],[]⟩]⟩)]⟩
def Rc:FT:=⟨[0,1,2,6],[]⟩
def Re:FT:=⟨[0,1,2,3,4,5,22,29,38],[(1,⟨[18],[⟨[1],[]⟩,⟨[6],[]⟩,⟨[7],[]⟩,⟨[1],[0,1,2]⟩,⟨[9],[0,1,2]⟩,⟨[10],[]⟩,⟨[1],[0,1,2,3,4,5]⟩,⟨[12],[0,1,2,3,4,5]⟩,⟨[13],[]⟩,⟨[1],[0,1,2,3,4,5,6,7,8]⟩,⟨[15],[0,1,2,3,4,5,6,7,8]⟩,⟨[16],[]⟩,⟨[8,11,14,17],[]⟩,⟨[18],[]⟩]⟩)]⟩
def Rf:FT:=⟨[0,1,2,3,4,5,6,7,8,9,10,14,19,43,45,50,56,61,82,90],[]⟩
def Rg:FT:=⟨[0,1,2,3,31],[]⟩
def Rh:FT:=⟨[0,1,2,3,6],[]⟩
def Ri:FT:=⟨[0,1,2,6],[]⟩
def Rj:FT:=⟨[0,1,2,3,6,7,8,9,10,11,18,23,38],[]⟩
def NB:FT:=⟨[0,2,3,4,10],[(5,⟨[22,26,39],[⟨[3],[]⟩,⟨[4],[0]⟩,⟨[20,21],[]⟩,⟨[],[0,1,2]⟩,⟨[],[0,1,2,3]⟩,⟨[],[0,1,2,3,4]⟩,⟨[24,25],[0,1,2,3]⟩,⟨[22,23,26],[]⟩,⟨[],[0,1,2,3,4,5,6,7]⟩,⟨[],[0,1,2,4,5,6,7,8]⟩,⟨[],[0,1,2,4,5,6,7,8]⟩,⟨[],[0,1,2,4,5,6,7,8]⟩,⟨[],[0,1,2,4,5,6,7,8]⟩,⟨[29,30,31,32],[0,1,2,4,5,6,7,8]⟩,⟨[],[0,1,2,4,5,6,7,8,13]⟩,⟨[],[0,1,2,4,5,6,7,8,13]⟩,⟨[],[0,1,2,4,5,6,7,8,13]⟩,⟨[],[0,1,2,4,5,6,7,8,13]⟩,⟨[34,35,36,37],[0,1,2,4,5,6,7,8,13]⟩,⟨[33,38],[0,1,2,4,5,6,7,8]⟩,⟨[27,28,39],[]⟩,⟨[2,40],[]⟩]⟩)]⟩
def Rk:FT:=⟨[0,1,2,4,5,6,7,8,18],[]⟩
def Rl:FT:=⟨[0,1,2,4,5,7,8,22],[(5,⟨[],[⟨[8],[]⟩,⟨[25],[]⟩,⟨[26],[]⟩,⟨[27],[]⟩,⟨[1],[0,1,2,3]⟩,⟨[28,29],[]⟩,⟨[30],[]⟩,⟨[31],[]⟩,⟨[32],[]⟩,⟨[8],[0,1,2,3,4,5,6,7,8]⟩,⟨[34],[0,1,2,3,4,5,6,7,8]⟩,⟨[35],[0,1,2,3,4,5,6,7,8]⟩,⟨[36],[0,1,2,3,4,5,6,7,8]⟩,⟨[1],[0,1,2,3,4,5,6,7,8,9,10,11,12]⟩,⟨[37,38],[0,1,2,3,4,5,6,7,8]⟩,⟨[39],[0,1,2,3,4,5,6,7,8]⟩,⟨[40],[0,1,2,3,4,5,6,7,8]⟩,⟨[41],[]⟩,⟨[33,42],[]⟩,⟨[4,43],[]⟩,⟨[],[]⟩]⟩)]⟩
def Rm:FT:=⟨[0,1,2,3,6,7,8,9,16],[]⟩
def Rn:FT:=⟨[0,1,2,3,6,7,8,9,10,22],[(1,⟨[16],[⟨[3],[]⟩,⟨[3],[0]⟩,⟨[2],[0,1]⟩,⟨[1],[0,1,2]⟩,⟨[15],[0,1,2]⟩,⟨[13,14,16],[0]⟩,⟨[12,17],[]⟩,⟨[18],[]⟩,⟨[11],[]⟩,⟨[11],[8]⟩,⟨[19],[9]⟩,⟨[20],[]⟩]⟩)]⟩
def Ro:FT:=⟨[0,1,2,3,4,7,8,9,10,11,12,13,14,15,26,30,74,75,76,77,93],[(1,⟨[21],[⟨[4],[]⟩,⟨[4],[0]⟩,⟨[2],[0,1]⟩,⟨[1],[0,1,2]⟩,⟨[20],[0,1,2]⟩,⟨[18,19,21],[0]⟩,⟨[17,22],[]⟩,⟨[23],[]⟩,⟨[16],[]⟩,⟨[16],[8]⟩,⟨[24],[9]⟩,⟨[25],[]⟩]⟩),(7,⟨[55,60],[⟨[12],[]⟩,⟨[44],[]⟩,⟨[12],[0,1]⟩,⟨[46],[0,1]⟩,⟨[12],[0,1,2,3]⟩,⟨[48],[0,1,2,3]⟩,⟨[12],[0,1,2,3,4,5]⟩,⟨[50],[0,1,2,3,4,5]⟩,⟨[4],[0,1,2,3,4,5,6,7]⟩,⟨[52],[0,1,2,3,4,5,6,7]⟩,⟨[53],[0,1,2,3,4,5,6,7]⟩,⟨[45,47,49,51,54],[]⟩,⟨[11],[0,1,2,3,4,5,6,7,8,9,10,11]⟩,⟨[56],[0,1,2,3,4,5,6,7,8,9,10,11]⟩,⟨[57],[0,1,2,3,4,5,6,7,8,9,10,11]⟩,⟨[58],[0,1,2,3,4,5,6,7,8,9,10,11]⟩,⟨[55,59],[]⟩,⟨[60],[]⟩]⟩),(11,⟨[92],[⟨[13],[]⟩,⟨[14],[0]⟩,⟨[81,82],[]⟩,⟨[83],[]⟩,⟨[84],[]⟩,⟨[13],[0,1,2,3,4]⟩,⟨[14],[0,1,2,3,4,5]⟩,⟨[86,87],[0,1,2,3,4]⟩,⟨[88],[0,1,2,3,4]⟩,⟨[89],[0,1,2,3,4]⟩,⟨[15],[0,1,2,3,4,5,6,7,8,9]⟩,⟨[91],[0,1,2,3,4,5,6,7,8,9]⟩,⟨[85,90,92],[]⟩]⟩)]⟩
def Rp:FT:=⟨[0],[]⟩
def Rq:FT:=⟨[0,1,2,3,6,7,8,22,31],[]⟩
def Rr:FT:=⟨[0,1,2,3,4,5,6,20,33],[]⟩
def Rt:FT:=⟨[0,1,4],[]⟩
def Ru:FT:=⟨[0,1,4,5,10,14,25],[(6,⟨[],[⟨[0],[]⟩,⟨[5],[0]⟩,⟨[17,18],[]⟩,⟨[19],[]⟩,⟨[1],[0,1,2,3]⟩,⟨[5],[0,1,2,3,4]⟩,⟨[21,22],[0,1,2,3]⟩,⟨[23],[0,1,2,3]⟩,⟨[20,24],[]⟩]⟩)]⟩
def Rv:FT:=⟨[0,1,2,3,4],[]⟩
def Rw:FT:=⟨[0,1,4,5,10,14,25],[(6,⟨[],[⟨[0],[]⟩,⟨[5],[0]⟩,⟨[17,18],[]⟩,⟨[19],[]⟩,⟨[1],[0,1,2,3]⟩,⟨[5],[0,1,2,3,4]⟩,⟨[21,22],[0,1,2,3]⟩,⟨[23],[0,1,2,3]⟩,⟨[20,24],[]⟩]⟩)]⟩
def Rx:FT:=⟨[0],[]⟩
def Ry:FT:=⟨[0,1,2,3,4,5,6],[]⟩
def Rz:FT:=⟨[0],[]⟩
def RA:FT:=⟨[0],[]⟩
def RB:FT:=⟨[0],[]⟩
def RC:FT:=⟨[0,1,2,3,4,5,6,7,8,9,11,20,31],[(6,⟨[],[⟨[4],[]⟩,⟨[32],[]⟩,⟨[5],[0,1]⟩,⟨[6],[0,1,2]⟩,⟨[7],[0,1,2,3]⟩,⟨[33,34,35,36],[]⟩,⟨[37],[]⟩,⟨[],[]⟩]⟩)]⟩
def RD:FT:=⟨[0,1,4],[]⟩
def RE:FT:=⟨[0,1,2,4,5,6,7,8,9,10,19,28],[]⟩
def RF:FT:=⟨[0,1,2,3,5,6,7,8,9,10,12,13,14,23,33,41,44,46,49,50,51,61],[]⟩
def RG:FT:=⟨[0,1,2,3,5,6,7,8,9,11,13,23,26,27,28,29,40,48],[(9,⟨[],[⟨[11],[]⟩,⟨[13],[0]⟩,⟨[45],[0]⟩,⟨[46],[0]⟩,⟨[6,44],[1,2,3]⟩,⟨[47],[]⟩,⟨[],[]⟩]⟩)]⟩
def RH:FT:=⟨[0,1,2,4,5,6,7,8,9,10,11,12,13,22,26,27,28,32,33,34,35,43,58,79],[]⟩
def RI:FT:=⟨[0,1,4,5,10,14,25],[(6,⟨[],[⟨[0],[]⟩,⟨[5],[0]⟩,⟨[17,18],[]⟩,⟨[19],[]⟩,⟨[1],[0,1,2,3]⟩,⟨[5],[0,1,2,3,4]⟩,⟨[21,22],[0,1,2,3]⟩,⟨[23],[0,1,2,3]⟩,⟨[20,24],[]⟩]⟩)]⟩
def RJ:FT:=⟨[0,1,2,3,4,5,6,7,8,9,10,11,16,20,21,22,23,27,33,46,53,54,55,56,60,72,88,107,112,118,125,126,127,128,132,172],[]⟩
def RK:FT:=⟨[0,1,2,4,5,6,7,8,9,10,12,20,21,22,23,39],[(10,⟨[46,47],[⟨[6],[]⟩,⟨[6],[0]⟩,⟨[41],[0]⟩,⟨[42],[0]⟩,⟨[43],[0]⟩,⟨[9],[0,1,2,3,4]⟩,⟨[45],[0,1,2,3,4]⟩,⟨[44,46],[0]⟩,⟨[40],[]⟩,⟨[48],[]⟩,⟨[47,49],[]⟩]⟩),(11,⟨[],[⟨[6],[]⟩,⟨[50],[]⟩,⟨[51],[]⟩,⟨[52],[]⟩,⟨[7],[0,1,2,3]⟩,⟨[8],[0,1,2,3,4]⟩,⟨[55],[0,1,2,3,4]⟩,⟨[53,54,56],[]⟩]⟩)]⟩
def RL:FT:=⟨[0,1,4,5,6,7,8,9,19,20,21,25,36,44,60],[]⟩
def RM:FT:=⟨[0,1,2,3,6,9,16,20,27],[]⟩
def RN:FT:=⟨[0,1,4,5,6,7,8,13,14,15,16,30],[]⟩
def RO:FT:=⟨[0,1,2,3,6,7,8,9],[(1,⟨[8],[⟨[1],[]⟩,⟨[3],[0]⟩,⟨[11],[0]⟩,⟨[12],[0]⟩,⟨[13],[0]⟩,⟨[14],[0]⟩,⟨[10,15],[]⟩,⟨[3],[0,1,2,3,4,5,6]⟩,⟨[17],[0,1,2,3,4,5,6]⟩,⟨[18],[0,1,2,3,4,5,6]⟩,⟨[16,19],[]⟩,⟨[2],[0,1,2,3,4,5,6,7,8,9,10]⟩,⟨[3],[0,1,2,3,4,5,6,7,8,9,10,11]⟩,⟨[22],[0,1,2,3,4,5,6,7,8,9,10,11]⟩,⟨[23],[0,1,2,3,4,5,6,7,8,9,10,11]⟩,⟨[24],[0,1,2,3,4,5,6,7,8,9,10,11]⟩,⟨[25],[0,1,2,3,4,5,6,7,8,9,10,11]⟩,⟨[21,26],[0,1,2,3,4,5,6,7,8,9,10]⟩,⟨[3],[0,1,2,3,4,5,6,7,8,9,10,11,12,13,14,15,16,17]⟩,⟨[28],[0,1,2,3,4,5,6,7,8,9,10,11,12,13,14,15,16,17]⟩,⟨[29],[0,1,2,3,4,5,6,7,8,9,10,11,12,13,14,15,16,17]⟩,⟨[27,30],[0,1,2,3,4,5,6,7,8,9,10]⟩,⟨[20,31],[]⟩,⟨[],[0,1,2,3,4,5,6,7,8,9,10,11,12,13,14,15,16,17,18,19,20,21,22]⟩,⟨[8,32],[]⟩]⟩),(3,⟨[],[⟨[8],[]⟩,⟨[9],[0]⟩,⟨[3],[0,1]⟩,⟨[46],[0,1]⟩,⟨[47],[0,1]⟩,⟨[3],[0,1,2,3,4]⟩,⟨[49],[0,1,2,3,4]⟩,⟨[50],[0,1,2,3,4]⟩,⟨[48,51],[0,1]⟩,⟨[45,52],[0]⟩,⟨[53],[0]⟩,⟨[9,54],[0]⟩,⟨[3,54],[0,11]⟩,⟨[54,56],[0,11]⟩,⟨[54,57],[0,11]⟩,⟨[3,54],[0,11,12,13,14]⟩,⟨[54,59],[0,11,12,13,14]⟩,⟨[54,60],[0,11,12,13,14]⟩,⟨[54,58,61],[0,11]⟩,⟨[54,55,62],[0]⟩,⟨[54,63],[0]⟩,⟨[6,44],[11,12,13,14,15,16,17,18,19,20]⟩,⟨[64],[]⟩]⟩)]⟩
def RP:FT:=⟨[0,1,2,3,4],[]⟩
def RQ:FT:=⟨[0,1,2,4],[]⟩
def RR:FT:=⟨[0,1,2,3,17],[(2,⟨[],[⟨[3],[]⟩,⟨[4],[]⟩,⟨[1],[0,1]⟩,⟨[5,6],[]⟩,⟨[7],[]⟩,⟨[8],[]⟩,⟨[3,9],[]⟩,⟨[9,10],[]⟩,⟨[9,11],[]⟩,⟨[9,12],[]⟩,⟨[1,9],[6,7,8,9]⟩,⟨[9,13,14],[]⟩,⟨[9,15],[]⟩,⟨[9,16],[]⟩]⟩)]⟩
def RU:FT:=⟨[0,1,4],[]⟩
def RV:FT:=⟨[0,1,2,4],[(1,⟨[],[⟨[2],[]⟩,⟨[5],[]⟩,⟨[1],[0,1]⟩,⟨[2],[0,1,2]⟩,⟨[8],[0,1,2]⟩,⟨[2],[0,1,2,3,4]⟩,⟨[10],[0,1,2,3,4]⟩,⟨[9,11],[0,1,2]⟩,⟨[12],[0,1,2]⟩,⟨[7,13],[0,1]⟩,⟨[6,14],[]⟩,⟨[15],[]⟩]⟩)]⟩
def RW:FT:=⟨[0,1,2,4,5,6,8,16,21,22,23,24],[]⟩
def RX:FT:=⟨[0,1,2,3,4,5,6,7,8,9],[]⟩
def RY:FT:=⟨[0,1,2,4,6,7,8,9,10,11],[]⟩
def RZ:FT:=⟨[0,1,2],[]⟩
def R0:FT:=⟨[0,1,2,4],[]⟩
def R1:FT:=⟨[0,1,4,7,11],[]⟩
def R2:FT:=⟨[0,1,2,3,4,28,34],[(1,⟨[],[⟨[1],[]⟩,⟨[5],[]⟩,⟨[6],[]⟩,⟨[1],[0,1,2]⟩,⟨[8],[0,1,2]⟩,⟨[9],[]⟩,⟨[7],[]⟩,⟨[10],[]⟩]⟩)]⟩
def R3:FT:=⟨[0,2,3,7,11,29,45],[(8,⟨[],[⟨[3],[]⟩,⟨[30],[]⟩,⟨[31],[]⟩,⟨[0,32],[]⟩,⟨[3,32],[3]⟩,⟨[32,33,34],[]⟩,⟨[32,35],[]⟩,⟨[32,36],[]⟩,⟨[0,32],[3,4,5,6,7]⟩,⟨[3,32],[3,4,5,6,7,8]⟩,⟨[32,39],[3,4,5,6,7,8]⟩,⟨[32,38,40],[3,4,5,6,7]⟩,⟨[32,41],[3,4,5,6,7]⟩,⟨[32,42],[3,4,5,6,7]⟩,⟨[32,37,43],[]⟩,⟨[32,44],[]⟩]⟩)]⟩
def R4:FT:=⟨[0,1,2,3,4,9,14,23,34],[]⟩
def R5:FT:=⟨[0,1,2,6,7,8,12,34,45],[(7,⟨[],[⟨[0],[]⟩,⟨[8],[0]⟩,⟨[35,36],[]⟩,⟨[37],[]⟩,⟨[38],[]⟩,⟨[0],[0,1,2,3,4]⟩,⟨[8],[0,1,2,3,4,5]⟩,⟨[40,41],[0,1,2,3,4]⟩,⟨[42],[0,1,2,3,4]⟩,⟨[43],[0,1,2,3,4]⟩,⟨[39,44],[]⟩]⟩)]⟩
def R6:FT:=⟨[0,1,2,4,5,12,17],[(6,⟨[],[⟨[2],[]⟩,⟨[27],[]⟩,⟨[28],[]⟩,⟨[1],[0,1,2]⟩,⟨[29,30],[]⟩,⟨[31],[]⟩,⟨[2],[0,1,2,3,4,5]⟩,⟨[33],[0,1,2,3,4,5]⟩,⟨[34],[0,1,2,3,4,5]⟩,⟨[32,35],[]⟩,⟨[4,36],[]⟩,⟨[],[]⟩]⟩)]⟩
def NC:FT:=⟨[0,1,2,3,4,6],[]⟩
def R7:FT:=⟨[0,1,2,3,4,5,6,7,12,13,24],[(7,⟨[],[⟨[4],[]⟩,⟨[5],[0]⟩,⟨[4,37],[1]⟩,⟨[5,38],[]⟩]⟩)]⟩
def ND:FT:=⟨[0,1,2,3,4,5,6,7,8,11,12,13,17],[(7,⟨[],[⟨[4],[]⟩,⟨[18],[]⟩,⟨[5],[0,1]⟩,⟨[4,19],[2]⟩,⟨[5,20],[]⟩,⟨[6],[]⟩]⟩),(9,⟨[],[⟨[5],[]⟩,⟨[4],[0]⟩,⟨[5,22],[]⟩,⟨[6],[]⟩]⟩)]⟩
def R8:FT:=⟨[0,1,3,4,5,6,7,10,11,12,13,20],[]⟩
def R9:FT:=⟨[0,1,4],[]⟩
def Sa:FT:=⟨[0,1,2,4,7],[]⟩
def Sb:FT:=⟨[0,2],[]⟩
def Sc:FT:=⟨[0,1,2,4,5,7,12,13,14],[(7,⟨[],[⟨[5],[]⟩,⟨[21],[]⟩,⟨[2],[0,1]⟩,⟨[23],[]⟩,⟨[22,24],[]⟩,⟨[25],[]⟩]⟩)]⟩
def Sd:FT:=⟨[0,1,3,4,6,30,31,32,33],[(1,⟨[],[⟨[3],[]⟩,⟨[7],[]⟩,⟨[8],[]⟩,⟨[3],[0,1,2]⟩,⟨[10],[0,1,2]⟩,⟨[11],[0,1,2]⟩,⟨[3],[0,1,2,3,4,5]⟩,⟨[13],[0,1,2,3,4,5]⟩,⟨[14],[0,1,2,3,4,5]⟩,⟨[3],[0,1,2,3,4,5,6,7,8]⟩,⟨[16],[0,1,2,3,4,5,6,7,8]⟩,⟨[17],[0,1,2,3,4,5,6,7,8]⟩,⟨[0],[0,1,2,3,4,5,6,7,8,9,10,11]⟩,⟨[19],[0,1,2,3,4,5,6,7,8,9,10,11]⟩,⟨[20],[0,1,2,3,4,5,6,7,8,9,10,11]⟩,⟨[21],[0,1,2,3,4,5,6,7,8,9,10,11]⟩,⟨[22],[0,1,2,3,4,5,6,7,8,9,10,11]⟩,⟨[23],[0,1,2,3,4,5,6,7,8,9,10,11]⟩,⟨[24],[0,1,2,3,4,5,6,7,8,9,10,11]⟩,⟨[9,12,15,18,25],[]⟩,⟨[4,26],[]⟩]⟩)]⟩
def Se:FT:=⟨[0,1,2,4,6,7,8,9,10,11,31,37,38,39,40,46,69],[(1,⟨[],[⟨[0],[]⟩,⟨[12],[]⟩,⟨[13],[]⟩,⟨[14],[]⟩,⟨[15],[]⟩,⟨[4],[0,1,2,3,4]⟩,⟨[16,17],[]⟩,⟨[2],[0,1,2,3,4,5,6]⟩,⟨[18,19],[]⟩,⟨[20],[]⟩]⟩),(2,⟨[],[⟨[8],[]⟩,⟨[21],[]⟩,⟨[4],[0,1]⟩,⟨[23],[0,1]⟩,⟨[0],[0,1,2,3]⟩,⟨[4],[0,1,2,3,4]⟩,⟨[2],[0,1,2,3,4,5]⟩,⟨[25,26,27],[0,1,2,3]⟩,⟨[28],[0,1,2,3]⟩,⟨[24,29],[0,1]⟩,⟨[22,30],[]⟩]⟩),(10,⟨[],[⟨[4],[]⟩,⟨[51],[]⟩,⟨[10],[0,1]⟩,⟨[52,53],[]⟩,⟨[54],[]⟩,⟨[55],[]⟩,⟨[8],[0,1,2,3,4,5]⟩,⟨[0],[0,1,2,3,4,5,6]⟩,⟨[58],[0,1,2,3,4,5,6]⟩,⟨[59],[0,1,2,3,4,5,6]⟩,⟨[60],[0,1,2,3,4,5,6]⟩,⟨[61],[0,1,2,3,4,5,6]⟩,⟨[62],[0,1,2,3,4,5,6]⟩,⟨[9],[0,1,2,3,4,5,6,7,8,9,10,11,12]⟩,⟨[2],[0,1,2,3,4,5,6,7,8,9,10,11,12,13]⟩,⟨[64,65],[0,1,2,3,4,5,6,7,8,9,10,11,12]⟩,⟨[63,66],[0,1,2,3,4,5,6]⟩,⟨[57,67],[0,1,2,3,4,5]⟩,⟨[56,68],[]⟩]⟩)]⟩
def Sf:FT:=⟨[0,1,2,4,6,7,8,9],[]⟩
def NF:FT:=⟨[0,1,2,3,4,5,6,7,8,11,12,13,17],[(7,⟨[],[⟨[4],[]⟩,⟨[18],[]⟩,⟨[5],[0,1]⟩,⟨[4,19],[2]⟩,⟨[5,20],[]⟩,⟨[6],[]⟩]⟩),(9,⟨[],[⟨[5],[]⟩,⟨[4],[0]⟩,⟨[5,22],[]⟩,⟨[6],[]⟩]⟩)]⟩
def Sg:FT:=⟨[0,1,3,4,6,7,8,9,10,19],[]⟩
def Sh:FT:=⟨[0,1,2,3,4,5,12,16],[]⟩
def Si:FT:=⟨[0,1,2,3,4,6],[]⟩
def Sj:FT:=⟨[0,1,2,3,4,9,10],[]⟩
def Sk:FT:=⟨[0,1,2,3,4,5,6,7,8,9,10,11,12,13,84,91,96,120],[]⟩
def Sl:FT:=⟨[0,1,2,3,4,5,6,7,8,9,13,14,15,16,22,29],[]⟩
def Sm:FT:=⟨[0,1,2,3,4,5,6,7,8,9,10,11,12,13,18,21,22,23,24,41,42,43,80,85],[]⟩
def Sn:FT:=⟨[0,1,4,5,6,7,8,9,10,11,12,19,28,35],[]⟩
def So:FT:=⟨[0,1,2,3,16,43],[]⟩
def Sp:FT:=⟨[0,2,3,5,7,8,9,11,18],[]⟩
def Sq:FT:=⟨[0,1,4],[]⟩
def Sr:FT:=⟨[0,1,2,3],[]⟩
def Su:FT:=⟨[0,1,2,3,5,6,43,52,63,64,65,66,69,83],[]⟩
def Sv:FT:=⟨[0,1,2,3],[]⟩
def Sw:FT:=⟨[0,2],[]⟩
def Sx:FT:=⟨[0,1,2,6],[]⟩
def MJ:FT:=⟨[0,1,2,3,4],[]⟩
def pQ:FT:=⟨[0,2,4],[]⟩
def MK:FT:=⟨[0,1,2,3,4,5,6,8,12,13,14,17,19,24],[]⟩
def IA:FT:=⟨[0,1,3,4,5,13,23,32],[]⟩
def ML:FT:=⟨[0,2,3,7,11,23,45],[]⟩
def MM:FT:=⟨[0,1,4,5,9,17],[]⟩
def MN:FT:=⟨[0,1,2,3,4,8,13,32,46],[(9,⟨[],[⟨[3],[]⟩,⟨[33],[]⟩,⟨[34],[]⟩,⟨[4,35],[]⟩,⟨[35,36],[]⟩,⟨[1,35],[3,4]⟩,⟨[35,38],[3,4]⟩,⟨[3,35],[3,4,5,6]⟩,⟨[35,40],[3,4,5,6]⟩,⟨[35,39,41],[3,4]⟩,⟨[35,42],[3,4]⟩,⟨[35,43],[3,4]⟩,⟨[35,37,44],[]⟩,⟨[35,45],[]⟩]⟩)]⟩
def MO:FT:=⟨[0,1,2,3,6,7,37],[]⟩
def MP:FT:=⟨[0,2,3,4,5,9,20,52],[(8,⟨[],[⟨[5],[]⟩,⟨[3],[0]⟩,⟨[23,24],[]⟩,⟨[25],[]⟩,⟨[5,26],[]⟩,⟨[4,26],[4]⟩,⟨[26,27,28],[]⟩,⟨[26,29],[]⟩,⟨[30],[]⟩,⟨[0,31],[]⟩,⟨[4,31],[9]⟩,⟨[31,32,33],[]⟩,⟨[31,34],[]⟩,⟨[0,31],[9,10,11,12]⟩,⟨[3,31],[9,10,11,12,13]⟩,⟨[31,36,37],[9,10,11,12]⟩,⟨[31,38],[9,10,11,12]⟩,⟨[31,35,39],[]⟩,⟨[0,31],[9,10,11,12,13,14,15,16,17]⟩,⟨[5,31],[9,10,11,12,13,14,15,16,17,18]⟩,⟨[31,41,42],[9,10,11,12,13,14,15,16,17]⟩,⟨[31,43],[9,10,11,12,13,14,15,16,17]⟩,⟨[0,31],[9,10,11,12,13,14,15,16,17,18,19,20,21]⟩,⟨[3,31],[9,10,11,12,13,14,15,16,17,18,19,20,21,22]⟩,⟨[31,45,46],[9,10,11,12,13,14,15,16,17,18,19,20,21]⟩,⟨[31,47],[9,10,11,12,13,14,15,16,17,18,19,20,21]⟩,⟨[31,44,48],[]⟩,⟨[31,40,49],[]⟩,⟨[31,50],[]⟩,⟨[31,51],[]⟩]⟩)]⟩
def MQ:FT:=⟨[0,1,4],[]⟩
def MR:FT:=⟨[0,1,2,4],[]⟩
def MS:FT:=⟨[0,1,2,3,4],[]⟩
def MT:FT:=⟨[0,1,2,3,4,6,7],[]⟩
def BM:FT:=⟨[0,1,2,3,4,5,6,7,10,11,13,26,38],[]⟩
def MU:FT:=⟨[0,2,4],[]⟩
def MV:FT:=⟨[0,1,4,5,7,8,9,16],[]⟩
def MW:FT:=⟨[0,1,2],[]⟩
def MX:FT:=⟨[0,1,2],[]⟩
def MY:FT:=⟨[0,1,4],[]⟩
def MZ:FT:=⟨[0,1,2],[]⟩
def M0:FT:=⟨[0,1,2,3,4,5,6,8,15,17,36],[(3,⟨[],[⟨[8],[]⟩,⟨[18],[]⟩,⟨[4],[0,1]⟩,⟨[20],[0,1]⟩,⟨[4],[0,1,2,3]⟩,⟨[22],[0,1,2,3]⟩,⟨[23],[0,1,2,3]⟩,⟨[21,24],[0,1]⟩,⟨[19,25],[]⟩,⟨[3],[0,1,2,3,4,5,6,7,8]⟩,⟨[27],[0,1,2,3,4,5,6,7,8]⟩,⟨[28],[0,1,2,3,4,5,6,7,8]⟩,⟨[29],[0,1,2,3,4,5,6,7,8]⟩,⟨[30],[0,1,2,3,4,5,6,7,8]⟩,⟨[31],[0,1,2,3,4,5,6,7,8]⟩,⟨[32],[0,1,2,3,4,5,6,7,8]⟩,⟨[5],[0,1,2,3,4,5,6,7,8,9,10,11,12,13,14,15]⟩,⟨[33,34],[0,1,2,3,4,5,6,7,8]⟩,⟨[26,35],[]⟩]⟩)]⟩
def BN:FT:=⟨[0,1,2,3,4,5,6,7,10,11,13,26,38],[]⟩
def IB:FT:=⟨[0,2,4],[]⟩
def IC:FT:=⟨[0,2,4],[]⟩
def ID:FT:=⟨[0,2,3,9],[(3,⟨[],[⟨[0],[]⟩,⟨[2],[0]⟩,⟨[0],[0,1]⟩,⟨[3],[0,1,2]⟩,⟨[0],[0,1,2,3]⟩,⟨[3],[0,1,2,3,4]⟩,⟨[18,19],[0,1,2,3]⟩,⟨[20],[0,1,2,3]⟩,⟨[0],[0,1,2,3,4,5,6,7]⟩,⟨[2],[0,1,2,3,4,5,6,7,8]⟩,⟨[22,23],[0,1,2,3,4,5,6,7]⟩,⟨[24],[0,1,2,3,4,5,6,7]⟩,⟨[14,15],[2,3]⟩,⟨[21,26],[2,3]⟩,⟨[16,17],[]⟩,⟨[25,27],[]⟩]⟩)]⟩
def IE:FT:=⟨[0,2,3,9],[(3,⟨[],[⟨[0],[]⟩,⟨[2],[0]⟩,⟨[0],[0,1]⟩,⟨[3],[0,1,2]⟩,⟨[0],[0,1,2,3]⟩,⟨[3],[0,1,2,3,4]⟩,⟨[18,19],[0,1,2,3]⟩,⟨[20],[0,1,2,3]⟩,⟨[0],[0,1,2,3,4,5,6,7]⟩,⟨[2],[0,1,2,3,4,5,6,7,8]⟩,⟨[22,23],[0,1,2,3,4,5,6,7]⟩,⟨[24],[0,1,2,3,4,5,6,7]⟩,⟨[14,15],[2,3]⟩,⟨[21,26],[2,3]⟩,⟨[16,17],[]⟩,⟨[25,27],[]⟩]⟩)]⟩
def M1:FT:=⟨[0,1,2,3,12,18,20,35],[]⟩
def M3:FT:=⟨[0,1,4,5,6,7,8,9,10,11,12,21],[]⟩
def M4:FT:=⟨[0,1,2,4,5,6,10,31],[(4,⟨[],[⟨[6],[]⟩,⟨[32],[]⟩,⟨[33],[]⟩,⟨[0,34],[]⟩,⟨[34,35],[]⟩,⟨[34,36],[]⟩,⟨[37],[]⟩,⟨[4,38],[]⟩,⟨[38,39],[]⟩,⟨[2,38],[7,8]⟩,⟨[0,38],[7,8,9]⟩,⟨[38,42],[7,8,9]⟩,⟨[38,41,43],[7,8]⟩,⟨[38,44],[7,8]⟩,⟨[38,45],[7,8]⟩,⟨[38,40,46],[]⟩,⟨[38,47],[]⟩,⟨[48],[]⟩]⟩)]⟩
def M5:FT:=⟨[0,1,2,3,18],[]⟩
def M6:FT:=⟨[0,1,2,4],[]⟩
def BO:FT:=⟨[0,1],[(0,⟨[],[⟨[0],[]⟩,⟨[1],[0]⟩,⟨[5],[0]⟩,⟨[4],[1,2]⟩,⟨[6,7],[]⟩,⟨[8],[]⟩,⟨[1],[0,1,2,3,4,5]⟩,⟨[10],[0,1,2,3,4,5]⟩,⟨[11],[0,1,2,3,4,5]⟩,⟨[9,12],[]⟩,⟨[4],[1,2,3,4,5,6,7,8,9]⟩,⟨[6,14],[]⟩,⟨[13,15],[]⟩]⟩)]⟩
def M7:FT:=⟨[0,1,3,4],[]⟩
def M8:FT:=⟨[0,2,3,4,7,14,15,16],[]⟩
def IF:FT:=⟨[0,1,2,3],[]⟩
def M9:FT:=⟨[0,1,2,3,4,17],[]⟩
def Na:FT:=⟨[0,1,2,3,4,5,6,7,8,9,22,23],[]⟩
def Nb:FT:=⟨[0,1,4,5,6,11,12,13,16,19],[]⟩
def Nc:FT:=⟨[0,1,4,5,7,8,9,16],[]⟩
def Nd:FT:=⟨[0,1,4],[]⟩
def Nf:FT:=⟨[0,1,2],[]⟩
def Ng:FT:=⟨[0,1,2],[]⟩
def Nh:FT:=⟨[0,1,4,5,7,8,9,16],[]⟩
def IG:FT:=⟨[0,1,2,4,5,7,8,18,26,27,28,29,44,77,82],[]⟩
def Ni:FT:=⟨[0,1,2],[]⟩
def Nj:FT:=⟨[0,1,2,3,4,5,6,7,8,9,10,16,18,19,20,21,36,38,43,50,52,53,54,55,64,69],[]⟩
def Nk:FT:=⟨[0,1,2,3,4,6],[]⟩
def Nl:FT:=⟨[0],[]⟩
def Nm:FT:=⟨[0,1,2,4],[]⟩
def Nn:FT:=⟨[0,1,2],[]⟩
def No:FT:=⟨[0,1,2,3,4],[]⟩
def Np:FT:=⟨[0,1,2,3,6,7,19,31],[(2,⟨[],[⟨[3],[]⟩,⟨[10],[]⟩,⟨[2],[0,1]⟩,⟨[12],[0,1]⟩,⟨[1],[0,1,2,3]⟩,⟨[13,14],[0,1]⟩,⟨[15],[0,1]⟩,⟨[11,16],[]⟩,⟨[3],[]⟩,⟨[17,18],[]⟩]⟩),(4,⟨[],[⟨[3],[]⟩,⟨[22],[]⟩,⟨[2],[0,1]⟩,⟨[24],[0,1]⟩,⟨[1],[0,1,2,3]⟩,⟨[26],[0,1,2,3]⟩,⟨[25,27],[0,1]⟩,⟨[23,28],[]⟩,⟨[3],[]⟩,⟨[29,30],[]⟩]⟩)]⟩
def Nq:FT:=⟨[0,2],[]⟩
def Nr:FT:=⟨[0,1,4,5,7,8,9,16],[]⟩
def IH:FT:=⟨[0,1,3,8,18],[]⟩
def II:FT:=⟨[0,1,3,8,12],[]⟩
def Ns:FT:=⟨[0,2,3,5,9,10,11,12,13,16,27],[]⟩
def Nt:FT:=⟨[0,1,2,3,4,5,7,8,15,25,28,29,32,33,34,35,45,56],[(14,⟨[],[⟨[4],[]⟩,⟨[38],[]⟩,⟨[4],[0,1]⟩,⟨[40],[0,1]⟩,⟨[7],[0,1,2,3]⟩,⟨[41,42],[0,1]⟩,⟨[39,43],[]⟩,⟨[44],[]⟩]⟩)]⟩
def Nu:FT:=⟨[0,1,2,4],[]⟩
def Nv:FT:=⟨[0,1,4],[]⟩
def Nw:FT:=⟨[0,1,2,3],[]⟩
def Ex:FT:=⟨[0,1,3,5,18,19,20,21,31],[(4,⟨[],[⟨[0],[]⟩,⟨[3],[0]⟩,⟨[3],[0,1]⟩,⟨[5],[0,1,2]⟩,⟨[26,27],[0,1]⟩,⟨[25,28],[0]⟩,⟨[24,29],[]⟩,⟨[30],[]⟩]⟩)]⟩
def Nx:FT:=⟨[0,1,4,5,12],[]⟩
def Ny:FT:=⟨[0,1,2,4,5,23],[]⟩
def Nz:FT:=⟨[0,1,2,3,4],[]⟩
def NA:FT:=⟨[0,1,4,5,7,8,9,16],[]⟩
end Go.PX
namespace Go.PX
open Go.Proofs
theorem ao:aY Tryz.prog tys:=rk (by decide +kernel)
theorem mixed:Tryz.prog.follows .mixedOrders=true:=by decide +kernel
theorem aA{f:FuncId}{fn:Func}{c:Code}(hf:Tryz.prog.funcs[f]?=some fn)(hb:fn.body=some c){ft:FT}{ds:List D}{r:D}(n:Nat)
  (hw:∀ {σ:Type} (Y:Hd σ) (s:σ),Dy Tryz.prog tys ft Y c ⟨mO 0 (inj ds),[],s⟩ (Pv tys fn.results.toList fun v h' s'=>(v = .d r/\h' = [])/\s'=s))
  (ec:uQ ft fn n=true:=by decide +kernel) (hn:ds.length=n:=by rfl):aW Tryz.prog f ds r:=g8 mixed ao hf hb n ec hn hw
def bx(l:List Int):D:=.vs (l.map fun n=>[i64 n])
def bc(n lo hi:Int):Bool:=decide (lo<=n)&&decide (n<=hi)
theorem pN(n lo hi:Int):aW Tryz.prog 99 [i64 n,i64 lo,i64 hi] (.bool (bc n lo hi)):=by
 refine g8 mixed ao Tryz.func99 rfl (ft:=Sx) 3 (by decide +kernel) rfl fun {σ} Y s=>?_;conv=>whnf
 refine ai (fun hb=>?_) (fun hb=>?_)
 ·conv=>whnf
  refine al 0 rfl ⟨⟨?_,rfl⟩,rfl⟩;simp[bF,bc]at hb ⊢;simp[hb]
 ·conv=>whnf
  refine al 0 rfl ⟨⟨?_,rfl⟩,rfl⟩;simp[bF,bc]at hb ⊢;omega
theorem iX(n lo hi:Int):aW Tryz.prog 17 [i64 n,i64 lo,i64 hi] (.bool (bc n lo hi)):=by
 refine g8 mixed ao Tryz.func17 rfl (ft:=Rc) 3 (by decide +kernel) rfl fun {σ} Y s=>?_;conv=>whnf
 refine ai (fun hb=>?_) (fun hb=>?_)
 ·conv=>whnf
  refine al 0 rfl ⟨⟨?_,rfl⟩,rfl⟩;simp[bF,bc]at hb ⊢;simp[hb]
 ·conv=>whnf
  refine al 0 rfl ⟨⟨?_,rfl⟩,rfl⟩;simp[bF,bc]at hb ⊢;omega
structure Span where
 lo:Int
 hi:Int
 deriving DecidableEq
def Span.cells(s:Span):List D:=[i64 s.lo,i64 s.hi]
def Span.d(s:Span):D:=.agg s.cells
def dc(l:List Span):D:=.vs (l.map Span.cells)
def spread(lo hi:Int):List Span->Int->Int
 | [],e=>e
 | s::r,e=>if bc s.lo lo hi&&bc s.hi lo hi then spread lo hi r (if s.lo>s.hi then 2 else e) else 7
theorem Ep(l:List Span)(lo hi:Int)(hl:l.length<4000000000000000000):aW Tryz.prog 69 [dc l,i64 lo,i64 hi] (i64 (spread lo hi l 0)):=by
 refine g8 mixed ao Tryz.func69 rfl (ft:=R5) 3 (by decide +kernel) rfl fun {σ} Y s=>?_;conv=>whnf
 refine bV (T:=tys) ao (by exact ah mixed ao (by decide +kernel)) (α:=Nat×Int)
  (fun x=>⟨[(0,.d (dc l)),(1,.d (i64 lo)),(2,.d (i64 hi)),(7,.d (i64 x.2)),(8,.d (i64 x.1))],[],s⟩) (fun x=>x.1<=l.length/\spread lo hi l 0=spread lo hi (l.drop x.1) x.2) (fun x=>l.length-x.1) (0,0)
  av (by simp) ?_
 rintro ⟨i,e⟩ ⟨DG,he⟩;simp only at DG he;conv=>whnf
 refine ai (fun hb=>?_) (fun hb=>?_)
 ·have hb:i<l.length:=by simpa using hb
  have hd:l.drop i=l[i]::l.drop (i+1):=List.drop_eq_getElem_cons hb;rw[hd,spread]at he;have step:∀ {dj:St σ} {e':Int},(bc l[i].lo lo hi&&bc l[i].hi lo hi)=true->e'=(if l[i].lo>l[i].hi then 2 else e)->Wk dj ⟨[(0,.d (dc l)),(1,.d (i64 lo)),(2,.d (i64 hi)),(7,.d (i64 e')),(8,.d (i64 ((i:Int)+1)))],[],s⟩ ->
    ∃ y:Nat×Int,l.length-y.1<l.length-i/\(y.1<=l.length/\spread lo hi l 0=spread lo hi (l.drop y.1) y.2)/\Wk dj ⟨[(0,.d (dc l)),(1,.d (i64 lo)),(2,.d (i64 hi)),(7,.d (i64 y.2)),(8,.d (i64 y.1))],[],s⟩:=by
   intro dj e' h1 h2 h3;rw[if_pos h1]at he;exact⟨(i+1,e'),by simp only;omega,⟨hb,by rw[he,h2]⟩,by simpa using h3⟩
  conv=>whnf
  refine bZ l[i].cells (by simp[hb]) ?_;conv=>whnf
  refine ae (pN _ _ _) rfl rfl ?_;conv=>whnf
  refine ai (fun h1=>?_) (fun h1=>?_)
  ·
   conv=>whnf
   rw[if_neg (by simp at h1;simp[h1])]at he;rw[he];exact af
  ·conv=>whnf
   refine bZ l[i].cells (by simp[hb]) ?_;conv=>whnf
   refine ae (pN _ _ _) rfl rfl ?_;conv=>whnf
   refine ai (fun h2=>?_) (fun h2=>?_)
   ·conv=>whnf
    rw[if_neg (by simp at h2;simp[h2])]at he;rw[he];exact af
   ·conv=>whnf
    refine bZ l[i].cells (by simp[hb]) ?_;conv=>whnf
    refine bZ l[i].cells (by simp[hb]) ?_;conv=>whnf
    have pd:(bc l[i].lo lo hi&&bc l[i].hi lo hi)=true:=by simp at h1 h2;simp[h1,h2]
    refine ai (fun h3=>?_) (fun h3=>?_)
    ·conv=>whnf
     refine ab ?_;conv=>whnf
     exact step pd (by simp at h3;rw[if_pos h3]) av
    ·conv=>whnf
     refine ab ?_;conv=>whnf
     exact step pd (by simp at h3;rw[if_neg (by omega)]) av
 ·have hb:¬ i<l.length:=by simpa using hb
  conv=>whnf
  rw[List.drop_of_length_le (by omega)]at he;simp only[spread]at he;rw[he];exact af
theorem MD(n lo hi:Int):aW Tryz.prog 110 [i64 n,.ref [i64 lo],.ref [i64 hi]] (.bool (decide (n<lo)||decide (n>hi))):=by
 refine g8 mixed ao Tryz.func110 rfl (ft:=MR) 3 (by decide +kernel) rfl fun {σ} Y s=>?_;conv=>whnf
 refine ai (fun hb=>?_) (fun hb=>?_)
 ·conv=>whnf
  refine al 0 rfl ⟨⟨?_,rfl⟩,rfl⟩;have hb:n<lo:=by simpa using hb
  simp[bF,hb]
 ·conv=>whnf
  refine al 0 rfl ⟨⟨?_,rfl⟩,rfl⟩;have hb:¬ n<lo:=by simpa using hb
  simp[bF,hb]
def indexOf{α:Type}(p:α->Bool):List α->Int->Int
 | [],_=>-1
 | x::r,i=>if p x then i else indexOf p r (i+1)
theorem eY{α:Type}(p:α->Bool):∀ (l:List α) (i:Int),0<=i->decide (indexOf p l i≥0)=l.any p
 | [],i,_=>by simp[indexOf]
 | x::r,i,h=>by
  simp only[indexOf,List.any_cons];split
  ·rename_i hp;simp[hp,h]
  ·rename_i hp
   rw[eY p r (i+1) (by omega)];simp[hp]
theorem Mo(l:List Int)(g:FuncId)(aM:List D)(p:Int->Bool)(hl:l.length<4000000000000000000)(hp:∀ x∈l,aW Tryz.prog g (i64 x::aM) (.bool (p x))) :
  aW Tryz.prog 142 [bx l,.clo g aM] (i64 (indexOf p l 0)):=by
 refine g8 mixed ao Tryz.func142 rfl (ft:=Nh) 2 (by decide +kernel) rfl fun {σ} Y s=>?_;conv=>whnf
 refine bV (T:=tys) ao (by exact ah mixed ao (by decide +kernel)) (α:=Nat)
  (fun i=>⟨[(0,.d (bx l)),(1,.d (.clo g aM)),(7,.d (i64 l.length)),(8,.d (i64 i))],[],s⟩) (fun i=>i<=l.length/\indexOf p l 0=indexOf p (l.drop i) i) (fun i=>l.length-i) 0
  (Wk.sub ⟨rfl,rfl,by simp[PX.get],rfl,trivial⟩ trivial) (by simp) ?_
 rintro i ⟨hi,he⟩;conv=>whnf
 refine ai (fun hb=>?_) (fun hb=>?_)
 ·have hb:i<l.length:=by simpa using hb
  have hd:l.drop i=l[i]::l.drop (i+1):=List.drop_eq_getElem_cons hb;rw[hd,indexOf]at he;conv=>whnf
  refine bZ [i64 l[i]] (by simp[hb]) ?_;conv=>whnf
  refine ae (ds:=i64 l[i]::aM) (hp _ (List.getElem_mem hb)) rfl rfl ?_;conv=>whnf
  refine ai (fun h1=>?_) (fun h1=>?_)
  ·conv=>whnf
   rw[if_pos h1]at he;rw[he];exact af
  ·conv=>whnf
   rw[if_neg (by simp[h1])]at he;refine ab ?_;conv=>whnf
   exact⟨i+1,by omega,⟨hb,by rw[he];rfl⟩,Wk.sub ⟨rfl,rfl,rfl,rfl,trivial⟩ trivial⟩
 ·have hb:¬ i<l.length:=by simpa using hb
  conv=>whnf
  rw[List.drop_of_length_le (by omega)]at he;rw[he];exact af
theorem GS(l:List Int)(g:FuncId)(aM:List D)(p:Int->Bool)(hl:l.length<4000000000000000000)(hp:∀ x∈l,aW Tryz.prog g (i64 x::aM) (.bool (p x))) :
  aW Tryz.prog 109 [bx l,.clo g aM] (.bool (l.any p)):=by
 refine g8 mixed ao Tryz.func109 rfl (ft:=MQ) 2 (by decide +kernel) rfl fun {σ} Y s=>?_;conv=>whnf
 refine ae (Mo l g aM p hl hp) rfl rfl ?_;conv=>whnf
 refine al 0 rfl ⟨⟨?_,rfl⟩,rfl⟩;rw[<- eY p l 0 (by omega)];rfl
theorem JL(lo hi:Int)(l:List Int)(hl:l.length<4000000000000000000):aW Tryz.prog 71 [i64 lo,i64 hi,bx l] (.bool (l.any fun n=>decide (n<lo)||decide (n>hi))):=by
 refine g8 mixed ao Tryz.func71 rfl (ft:=NC) 3 (by decide +kernel) rfl fun {σ} Y s=>?_;conv=>whnf
 refine ag (GS l 110 [.ref [i64 lo],.ref [i64 hi]] (fun n=>decide (n<lo)||decide (n>hi)) hl fun x _=>MD x lo hi) rfl 1 rfl ?_;conv=>whnf
 exact af
theorem FW{α β:Type}(f:α->β)(l:List α):(l.map f).take l.length=l.map f:=by rw[List.take_of_length_le (by simp)]
structure cH where
 day:Int
 shown:Int
 deriving DecidableEq
def cH.cells(g:cH):List D:=[i64 g.day,i64 g.shown]
def fp(l:List cH):D:=.vs (l.map cH.cells)
def dr{α:Type}(out:List Int):List α->Int->List α
 | [],_=>[]
 | x::r,i=>if i∈out then dr out r (i+1) else x::dr out r (i+1)
theorem AN{a b:Int}(A B:Nat)(ha : -(A:Int)<=a/\a<=A)(hb : -(B:Int)<=b/\b<=B) : -((A*B:Nat):Int)<=a*b/\a*b<=((A*B:Nat):Int):=by
 have h1:a.natAbs<=A:=by omega
 have h2:b.natAbs<=B:=by omega
 have h3:(a*b).natAbs<=A*B:=by rw[Int.natAbs_mul];exact Nat.mul_le_mul h1 h2
 omega
structure bH where
 name:ByteArray
 eh:Int
 set:Int
 new:Span
 wear:Span
 aQ:List cH
def bH.cells(s:bH):List D:=[.str s.name,i64 s.eh,i64 s.set,i64 s.new.lo,i64 s.new.hi,i64 s.wear.lo,i64 s.wear.hi,fp s.aQ]
def bH.d(s:bH):D:=.agg s.cells
def bd(n:Int):Prop:=-1000000000<=n/\n<=1000000000
def uc(set fresh wear day:Int):Int:=max 0 (fresh-wear*(day-set))
theorem Eo(n b:Int)(hn:0<=n/\n<=4000000000000000000)(hb:0<b/\b<=1000000):aW Tryz.prog 118 [i64 n,i64 b] (i64 ((n+b-1).tdiv b)):=by
 refine aA Tryz.func118 rfl (ft:=MY) 2 fun {σ} Y s=>?_;conv=>whnf
 refine ab ?_;conv=>whnf
 refine ab ?_;conv=>whnf
 refine bo (by simp;omega) ?_;conv=>whnf
 refine pz (wrap_i64 ?_) ?_
 ·have h1:0<=(n+b-1).tdiv b:=Int.tdiv_nonneg (by omega) (by omega)
  have h2:(n+b-1).tdiv b<=n+b-1:=by
   rw[Int.tdiv_eq_ediv_of_nonneg (by omega)];exact Int.ediv_le_self _ (by omega)
  omega
 conv=>whnf
 exact af
def kg(dq:Int):Int:=(dq*dq).tdiv 20000
theorem JP(n:Int)(hn:bd n):aW Tryz.prog 77 [i64 n] (i64 (kg n)):=by
 refine aA Tryz.func77 rfl (ft:=Sb) 1 fun {σ} Y s=>?_;unfold bd at hn;have hm:=AN (a:=n) (b:=n) 1000000000 1000000000 (by omega) (by omega);have h0:0<=n*n:=by
  rcases Int.le_total 0 n with h|h
  ·exact Int.mul_nonneg h h
  ·exact Int.mul_nonneg_of_nonpos_of_nonpos h h
 have hq:0<=(n*n).tdiv 20000/\(n*n).tdiv 20000<=n*n:=⟨Int.tdiv_nonneg h0 (by omega),by
  rw[Int.tdiv_eq_ediv_of_nonneg h0];exact Int.ediv_le_self _ h0⟩
 conv=>whnf
 refine ab ?_;conv=>whnf
 refine ab ?_;conv=>whnf
 exact af
def sx(set off wear:Int)(p:Int×Int)(g:cH):Option (Int×Int):=
 let lost:=wear*(g.day-set)
 let lo:=if g.shown>off then max p.1 (g.shown-off+lost) else p.1
 let hi:=min p.2 (g.shown+off+lost)
 if lo>hi then none else some (lo,hi)
def mP(set off wear:Int):Int×Int->List cH->Option (Int×Int)
 | p,[]=>some p
 | p,g::r=>match sx set off wear p g with
  | none=>none
  | some q=>mP set off wear q r
def xm(g:cH):Prop:=0<=g.day/\g.day<=1000000/\0<=g.shown/\g.shown<=1000000
theorem Aq{set off wear:Int}{p q:Int×Int}{g:cH}(h:sx set off wear p g=some q):p.1<=q.1/\q.1<=q.2/\q.2<=p.2:=by
 unfold sx at h;by_cases hs:g.shown>off
 ·simp only[hs,if_true]at h
  split at h
  ·cases h
  ·cases h;simp only;omega
 ·simp only[hs,if_false]at h
  split at h
  ·cases h
  ·cases h;simp only;omega
theorem yG{set off wear:Int}:∀ {gs:List cH} {p q:Int×Int},p.1<=p.2->mP set off wear p gs=some q->p.1<=q.1/\q.1<=q.2/\q.2<=p.2
 | [],p,q,hp,h=>by simp only[mP,Option.some.injEq]at h;subst h;omega
 | g::r,p,q,hp,h=>by
  simp only[mP]at h;split at h
  ·cases h
  ·rename_i p' CZ
   have h1:=Aq CZ;have h2:=yG h1.2.1 h;omega
def xN(set off day:Int)(new:Int×Int)(gs:List cH):Nat->Int->Span×Bool->Span×Bool
 | 0,_,acc=>acc
 | n+1,wear,acc=>xN set off day new gs n (wear+1) (match mP set off wear new gs with
  | none=>acc
  | some f=>
   let lo:=uc set f.1 wear day
   let hi:=uc set f.2 wear day
   let out:=if acc.2 then acc.1 else ⟨lo,hi⟩
   (⟨min out.lo lo,max out.hi hi⟩,true))
structure Ji(s:bH):Prop where
 set:0<=s.set/\s.set<=1000000
 new:0<=s.new.lo/\s.new.lo<=1000000/\0<=s.new.hi/\s.new.hi<=1000000/\s.new.lo<=s.new.hi
 wear:0<=s.wear.lo/\s.wear.lo<=1000000/\0<=s.wear.hi/\s.wear.hi<=900000
def dw(s:bH)(off:Int)(gs:List cH)(day:Int):Span×Bool:=xN s.set off day (s.new.lo,s.new.hi) gs (s.wear.hi+1-s.wear.lo).toNat s.wear.lo (⟨0,0⟩,false)
structure Row where
 scope:Int
 holds:Int
def Row.cells(r:Row):List D:=[i64 r.scope,i64 r.holds]
def fQ(l:List bH):D:=.vs (l.map bH.cells)
def ot(l:List Row):D:=.vs (l.map Row.cells)
structure jo where
 au:List bH
 dm:Int
 gH:Int
 err:Int
 hold:Span
 rows:List Row
def jo.cells(c:jo):List D:=[fQ c.au,i64 c.dm,i64 c.gH,i64 c.err,i64 c.hold.lo,i64 c.hold.hi,ot c.rows]
def jo.d(c:jo):D:=.agg c.cells
def bK:List bH->Int
 | []=>0
 | s::r=>s.eh+bK r
theorem rI{l:List bH}{i:Nat}{s:bH}(h:l[i]?=some s):bK (l.take (i+1))=bK (l.take i)+s.eh:=by
 induction l generalizing i with
 | nil=>simp at h
 | cons x r ih=>
  cases i with
  | zero=>simp at h;subst h;simp[bK]
  | succ i=>simp at h;simp only[List.take_succ_cons,bK,ih h];omega
theorem vY{l:List bH}(h:∀ s∈l,bd s.eh)(i:Nat) : -1000000000*(i:Int)<=bK (l.take i)/\bK (l.take i)<=1000000000*(i:Int):=by
 induction l generalizing i with
 | nil=>simp[bK];omega
 | cons x r ih=>
  cases i with
  | zero=>simp[bK]
  | succ i=>
   have h1:=ih (fun s hs=>h s (List.mem_cons_of_mem _ hs)) i;have h2:=h x (List.mem_cons_self ..);unfold bd at h2;simp only[List.take_succ_cons,bK];omega
theorem QH(c:jo)(hl:c.au.length<1000000)(hb:∀ s∈c.au,bd s.eh):aW Tryz.prog 10 [c.d] (i64 (bK c.au)):=by
 refine aA Tryz.func10 rfl (ft:=Q5) 1 fun {σ} Y st=>?_;conv=>whnf
 refine bV (T:=tys) ao (by exact ah mixed ao (by decide +kernel)) (α:=Nat)
  (fun i=>⟨[(1,.ptr 1 0),(3,.d (i64 (bK (c.au.take i)))),(4,.d (i64 i))],[(1,.box (.dd c.cells))],st⟩) (fun i=>i<=c.au.length) (fun i=>c.au.length-i) 0
  av (by omega) ?_
 rintro i hi;conv=>whnf
 refine ai (fun hc=>?_) (fun hc=>?_)
 ·have hc:i<c.au.length:=by simpa using hc
  obtain⟨s,hs⟩:∃ s,c.au[i]?=some s:=⟨_,List.getElem?_eq_getElem hc⟩;have h1:=vY hb i;have h2:=hb s (List.mem_of_getElem? hs);unfold bd at h2;conv=>whnf
  refine bZ s.cells (by simp[hs]) ?_;conv=>whnf
  refine ab ?_;conv=>whnf
  refine ab ?_;conv=>whnf
  exact⟨i+1,by omega,hc,Wk.sub ⟨rfl,by rw[rI hs];rfl,rfl,trivial⟩ ⟨rfl,trivial⟩⟩
 ·have hc:¬ i<c.au.length:=by simpa using hc
  conv=>whnf
  rw[List.take_of_length_le (by omega)];exact af
theorem JQ(c:jo)(hl:c.au.length<1000000)(hb:∀ s∈c.au,bd s.eh):aW Tryz.prog 81 [c.d] (i64 (bK c.au)):=by
 refine aA Tryz.func81 rfl (ft:=Sf) 1 fun {σ} Y st=>?_;conv=>whnf
 refine bV (T:=tys) ao (by exact ah mixed ao (by decide +kernel)) (α:=Nat)
  (fun i=>⟨[(2,.d (i64 (bK (c.au.take i)))),(6,.d (fQ c.au)),(7,.d (i64 c.au.length)),(8,.d (i64 i))],[],st⟩) (fun i=>i<=c.au.length) (fun i=>c.au.length-i) 0
  (Wk.sub ⟨rfl,rfl,by simp[PX.get],rfl,trivial⟩ trivial) (by omega) ?_
 rintro i hi;conv=>whnf
 refine ai (fun hc=>?_) (fun hc=>?_)
 ·have hc:i<c.au.length:=by simpa using hc
  obtain⟨s,hs⟩:∃ s,c.au[i]?=some s:=⟨_,List.getElem?_eq_getElem hc⟩;have h1:=vY hb i;have h2:=hb s (List.mem_of_getElem? hs);unfold bd at h2;conv=>whnf
  refine bZ s.cells (by simp[hs]) ?_;conv=>whnf
  refine ab ?_;conv=>whnf
  refine ab ?_;conv=>whnf
  exact⟨i+1,by omega,hc,Wk.sub ⟨by rw[rI hs];rfl,rfl,rfl,rfl,trivial⟩ trivial⟩
 ·have hc:¬ i<c.au.length:=by simpa using hc
  conv=>whnf
  rw[List.take_of_length_le (by omega)];exact af
theorem JI(a b:List Int)(ha:a.length<1000000):aW Tryz.prog 34 [bx a,bx b] (.bool (decide (a=b))):=by
 refine aA Tryz.func34 rfl (ft:=Ru) 2 fun {σ} Y st=>?_;conv=>whnf
 refine ai (fun h0=>?_) (fun h0=>?_)
 ·have h0:a.length≠b.length:=by
   intro e;simp[e]at h0
  conv=>whnf
  rw[decide_eq_false (by rintro rfl;exact h0 rfl)];exact af
 ·have h0:a.length=b.length:=by
   have:=h0;simp at this;omega
  conv=>whnf
  refine bV (T:=tys) ao (by exact ah mixed ao (by decide +kernel)) (α:=Nat)
   (fun i=>⟨[(0,.d (bx a)),(1,.d (bx b)),(5,.d (i64 i))],[],st⟩) (fun i=>i<=a.length/\a.take i=b.take i) (fun i=>a.length-i) 0
   av (by simp) ?_
  rintro i ⟨hi,he⟩;conv=>whnf
  refine ai (fun hc=>?_) (fun hc=>?_)
  ·have hc:i<a.length:=by simpa using hc
   have qP:i<b.length:=by omega
   conv=>whnf
   refine bZ [i64 a[i]] (by simp[hc]) ?_;conv=>whnf
   refine bZ [i64 b[i]] (by simp[qP]) ?_;conv=>whnf
   refine ai (fun h1=>?_) (fun h1=>?_)
   ·conv=>whnf
    have h1:a[i]≠b[i]:=by simpa using h1
    rw[decide_eq_false (by rintro rfl;exact h1 rfl)];exact af
   ·have h1:a[i]=b[i]:=by simpa using h1
    conv=>whnf
    refine ab ?_;conv=>whnf
    exact⟨i+1,by omega,⟨hc,by rw[List.take_succ_eq_append_getElem hc,List.take_succ_eq_append_getElem qP,he,h1]⟩,Wk.sub ⟨rfl,rfl,rfl,trivial⟩ trivial⟩
  ·have hc:¬ i<a.length:=by simpa using hc
   conv=>whnf
   rw[List.take_of_length_le (by omega),List.take_of_length_le (by omega)]at he;rw[decide_eq_true he];exact af
theorem tn(s:Span)(lo hi:Int):aW Tryz.prog 21 [s.d,i64 lo,i64 hi] (i64 (spread lo hi [s] 0)):=by
 refine aA Tryz.func21 rfl (ft:=Rh) 3 fun {σ} Y st=>?_;conv=>whnf
 refine ag (Ep [s] lo hi (by simp)) rfl 1 rfl ?_;conv=>whnf
 exact af
theorem H3{a b:Span}:a=b↔a.lo=b.lo/\a.hi=b.hi:=by cases a;cases b;simp
theorem QL(a b:List Span)(ha:a.length<1000000):aW Tryz.prog 36 [dc a,dc b] (.bool (decide (a=b))):=by
 refine aA Tryz.func36 rfl (ft:=Rw) 2 fun {σ} Y st=>?_;conv=>whnf
 refine ai (fun h0=>?_) (fun h0=>?_)
 ·have h0:a.length≠b.length:=by
   intro e;simp[e]at h0
  conv=>whnf
  rw[decide_eq_false (by rintro rfl;exact h0 rfl)];exact af
 ·have h0:a.length=b.length:=by
   have:=h0;simp at this;omega
  conv=>whnf
  refine bV (T:=tys) ao (by exact ah mixed ao (by decide +kernel)) (α:=Nat)
   (fun i=>⟨[(0,.d (dc a)),(1,.d (dc b)),(5,.d (i64 i))],[],st⟩) (fun i=>i<=a.length/\a.take i=b.take i) (fun i=>a.length-i) 0
   av (by simp) ?_
  rintro i ⟨hi,he⟩;conv=>whnf
  refine ai (fun hc=>?_) (fun hc=>?_)
  ·have hc:i<a.length:=by simpa using hc
   have qP:i<b.length:=by omega
   conv=>whnf
   refine bZ a[i].cells (by simp[hc]) ?_;conv=>whnf
   refine bZ b[i].cells (by simp[qP]) ?_;conv=>whnf
   refine ai (fun h1=>?_) (fun h1=>?_)
   ·conv=>whnf
    have h1:a[i]≠b[i]:=by
     intro e;rw[e]at h1;simp at h1
    rw[decide_eq_false (by rintro rfl;exact h1 rfl)];exact af
   ·have h1:a[i]=b[i]:=by
     rw[H3];simp at h1;exact h1
    conv=>whnf
    refine ab ?_;conv=>whnf
    exact⟨i+1,by omega,⟨hc,by rw[List.take_succ_eq_append_getElem hc,List.take_succ_eq_append_getElem qP,he,h1]⟩,Wk.sub ⟨rfl,rfl,rfl,trivial⟩ trivial⟩
  ·have hc:¬ i<a.length:=by simpa using hc
   conv=>whnf
   rw[List.take_of_length_le (by omega),List.take_of_length_le (by omega)]at he;rw[decide_eq_true he];exact af
def gF(set:Int):Option Int->List cH->Int
 | _,[]=>0
 | last,g::r=>if bc g.day set 40000&&bc g.shown 0 60000 then (if (match last with
   | some d=>decide (g.day<d)
   | none=>false) then 2 else gF set (some g.day) r) else 7
theorem xn(set:Int)(last:Option Int)(g:cH)(r:List cH):gF set last (g::r)=if bc g.day set 40000&&bc g.shown 0 60000 then (if (match last with
   | some d=>decide (g.day<d)
   | none=>false) then 2 else gF set (some g.day) r) else 7:=rfl
def nz(gs:List cH):Nat->Option Int
 | 0=>none
 | i+1=>(gs[i]?).map (·.day)
theorem Ms(s:bH):aW Tryz.prog 106 [s.d] (i64 (if 6<s.aQ.length then 3 else gF s.set none s.aQ)):=by
 refine aA Tryz.func106 rfl (ft:=MN) 1 fun {σ} Y st=>?_;conv=>whnf
 refine ai (fun h0=>?_) (fun h0=>?_)
 ·have h0:6<s.aQ.length:=by
   have:=h0;simp at this;omega
  conv=>whnf
  rw[if_pos h0];exact af
 ·have h0:¬ 6<s.aQ.length:=by
   have:=h0;simp at this;omega
  conv=>whnf
  rw[if_neg h0];refine bV (T:=tys) ao (by exact ah mixed ao (by decide +kernel)) (α:=Nat)
   (fun i=>⟨[(1,.ptr 1 0),(3,.d (i64 i))],[(1,.box (.dd s.cells))],st⟩) (fun i=>i<=s.aQ.length/\gF s.set none s.aQ=gF s.set (nz s.aQ i) (s.aQ.drop i)) (fun i=>s.aQ.length-i) 0
   av (by simp[nz]) ?_
  rintro i ⟨hi,he⟩;conv=>whnf
  refine ai (fun hc=>?_) (fun hc=>?_)
  ·have hc:i<s.aQ.length:=by simpa using hc
   obtain⟨g,hg⟩:∃ g,s.aQ[i]?=some g:=⟨_,List.getElem?_eq_getElem hc⟩;have hd:s.aQ.drop i=g::s.aQ.drop (i+1):=by
    rw[List.drop_eq_getElem_cons hc];rw[List.getElem?_eq_getElem hc]at hg;rw[Option.some.inj hg]
   rw[hd,xn]at he;conv=>whnf
   refine bZ g.cells (by simp[hg]) ?_;conv=>whnf
   refine ae (iX _ _ _) rfl rfl ?_;conv=>whnf
   refine ai (fun h1=>?_) (fun h1=>?_)
   ·conv=>whnf
    rw[if_neg (by simp at h1;simp[h1])]at he;rw[he];exact af
   ·conv=>whnf
    refine ae (iX _ _ _) rfl rfl ?_;conv=>whnf
    refine ai (fun h2=>?_) (fun h2=>?_)
    ·conv=>whnf
     rw[if_neg (by simp at h2;simp[h2])]at he;rw[he];exact af
    ·conv=>whnf
     rw[if_pos (by simp at h1 h2;simp[h1,h2])]at he;refine ai (fun h3=>?_) (fun h3=>?_)
     ·have h3:0<i:=by
       have:=h3;simp at this;omega
      obtain⟨j,rfl⟩:∃ j,i=j+1:=⟨i-1,by omega⟩;obtain⟨p,hp⟩:∃ p,s.aQ[j]?=some p:=⟨_,List.getElem?_eq_getElem (by omega)⟩;simp only[nz,hp,Option.map_some]at he;conv=>whnf
      refine ab ?_;conv=>whnf
      refine bZ p.cells ⟨by omega,by rw[show((((j+1:Nat):Int)-1).toNat)=j by omega];simp[hp]⟩ ?_;conv=>whnf
      refine ai (fun h4=>?_) (fun h4=>?_)
      ·conv=>whnf
       rw[if_pos h4]at he;rw[he];exact af
      ·conv=>whnf
       rw[if_neg (by rw[h4];simp)]at he;refine ab ?_;conv=>whnf
       exact⟨j+1+1,by omega,⟨hc,by rw[he];simp only[nz,hg,Option.map_some]⟩,Wk.sub ⟨rfl,rfl,trivial⟩ ⟨rfl,trivial⟩⟩
     ·have h3:i=0:=by
       have:=h3;simp at this;omega
      subst h3;simp only[nz,Bool.false_eq_true,if_false]at he;conv=>whnf
      refine ab ?_;conv=>whnf
      exact⟨0+1,by omega,⟨hc,by rw[he];simp only[nz,hg,Option.map_some]⟩,Wk.sub ⟨rfl,rfl,trivial⟩ ⟨rfl,trivial⟩⟩
  ·have hc:¬ i<s.aQ.length:=by simpa using hc
   conv=>whnf
   rw[List.drop_of_length_le (by omega)]at he;rw[he];exact af
end Go.PX
