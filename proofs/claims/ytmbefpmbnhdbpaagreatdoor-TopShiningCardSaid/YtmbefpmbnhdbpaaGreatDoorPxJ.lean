import Derived.Test.YtmbefpmbnhdbpaaGreatDoorPxI
import Derived.ProofKit
import Derived.ReadAgain
import Derived.HandedShaped
import Derived.LaidMore
import Derived.Lay
import Derived.Lib.LaidU8
import Derived.Shelf.Vars
import Derived.Stop.Joined
import Derived.Test.YtmbefpmbnhdbpaaGreatDoorRows
import Derived.Test.YtmbefpmbnhdbpaaGreatDoorPxA
import Derived.Test.YtmbefpmbnhdbpaaGreatDoorPxH
import Derived.Test.YtmbefpmbnhdbpaaGreatDoorProg
set_option linter.all false
set_option maxRecDepth 10000
namespace Go.PX
open Go.RowKit Go.ChangeShapes
def tF(W:World)(b:Nat):Nat:=match W.heap[b]? with
 | some (.cells c _ _)=>c.size+1
 | some _=>1
 | none=>0
def Yt(W:World):Cx Unit where
 C:=fun _ b=>b<W.heap.size
 HG:=fun _ w F=>W.heap.size<=w.heap.size /\ ∀ b,b<W.heap.size->w.heap[b]?=W.heap[b]?
 yv:=none
 B7:=none
 pρ:=id
 pκ:=id
 gE:=by
  rintro s w F w' F' ⟨h1,h2⟩ tr hf hk;exact⟨Nat.le_trans h1 tr.size,fun b hb=>(hk b hb).1.trans (h2 b hb)⟩
structure Still(W W':World):Prop where
 os:W'.os=W.os
 output:W'.output=W.output
 size:W.heap.size<=W'.heap.size
 heap:∀ b,b<W.heap.size->W'.heap[b]?=W.heap[b]?
theorem Still.frame{W W':World}(h:Still W W')(may:MemPlace->Prop):W.keptBut W' may:=by
 refine⟨h.os,h.output,fun i hi=>?_⟩;rw[h.heap i hi]
 cases W.heap[i]? with
 | none=>rfl
 | some o=>cases o with
  | cells c t fr=>exact⟨rfl,rfl,rfl,fun _ _=>rfl⟩
  | map es clock=>exact .inr ⟨rfl,rfl⟩
  | _=>rfl
theorem Still.sameAt{W W':World}(h:Still W W'){p:MemPlace}(hp:p.block<W.heap.size):W.sameAt W' p:=by
 cases p with
 | cell b off=>
  have:=h.heap b hp;simp only[World.sameAt,World.cell?,this]
 | map b=>exact h.heap b hp
theorem Laid.still{P:Program}{W w:World}(hl:Laid P W)(hs:W.heap.size<=w.heap.size)(hk:∀ b,b<W.heap.size->w.heap[b]?=W.heap[b]?):Laid P w:=by
 have lt:∀ {g:Nat} {o:Go.Obj},W.heap[g]?=some o->w.heap[g]?=some o:=fun {g o} h=>by
  rw[hk g (Array.getElem?_eq_some_iff.1 h).1];exact h
 have cell:∀ {g:Nat} {v:Value},W.cell? ⟨g,0,none⟩=some v->w.cell? ⟨g,0,none⟩=some v:=fun {g v} h=>by
  unfold World.cell? at h ⊢;simp only at h ⊢;split at h
  ·rename_i c t f hb
   rw[lt hb];exact h
  ·cases h
 refine⟨fun g hg=>?_,fun g hg=>?_,fun g hg=>?_,fun g hg=>?_⟩
 ·have h:=hl.tab g hg
  unfold Lib.TabIs World.var? at h ⊢;rw[hg]at h ⊢;simp only[Option.bind_some]at h ⊢;split at h
  ·rename_i c t f hb
   rw[lt hb];exact h
  ·cases h
 ·obtain⟨m,h⟩:=hl.len g hg;exact⟨m,cell h⟩
 ·obtain⟨m,v,h⟩:=hl.syn g hg;exact⟨m,v,cell h⟩
 ·obtain⟨m,v,h⟩:=hl.Zb g hg;exact⟨m,v,cell h⟩
theorem top{P:Program}{f:FuncId}{ds:List D}{d:D}(h:bq P f ds d)(W:World)(hl:Laid P W)(args:Array Value)(hr:bt (tF W) W ds args.toList) :
  Calls P f args W fun e W'=>∃ x,e = .returned x/\(∃ F',bR F' W' d x)/\Still W W':=by
 have h1:=(h (σ:=Unit) { y:=fun _ _ _ _=>False } ()).run (Yt W) ⟨fun l hl=>by(cases hl),fun s w F hh=>hl.still hh.1 hh.2⟩ ⟨id,id⟩ (tF W) args W
  ⟨⟨Nat.le_refl _,fun _ _=>rfl⟩,fun b hb=>hb,fun b hb=>by simp[tF,Array.getElem?_eq_none hb],fun id o ho=>by simp[get]at ho,fun id o ho=>by simp[get]at ho,fun i j o p ho=>by simp[get]at ho⟩ (aq.inj.2 hr)
 refine callsIn_wide.1 (h1.mono ?_);rintro e W' ⟨x,rfl,v,h',s',L',F',⟨⟨rfl,rfl⟩,_⟩,hh,hx,tr,_⟩;exact⟨x,rfl,⟨F',hx⟩,tr.os,tr.output,hh.hg.1,hh.hg.2⟩
theorem sK{H:Type}{enc:TypeId×Value->H}{P:Program}{W W':World}{base:Nat}{sp:Nat->Bool}{held:Bool}:∀ {ts:List TypeId} {vs:List Value} {ds:List (DataW H)} {ps:List MemPlace},
  DataW.TrodAll enc P W base sp held ts vs ds ps->(∀ p∈ps,W.sameAt W' p)->DataW.TrodAll enc P W' base sp held ts vs ds ps
 | [],[],[],_,h,_=>h
 | _::_,_::_,_::_,_,⟨p,q,⟨n,h1⟩,h2,e⟩,hs=>⟨p,q,⟨n,DataW.trod_carry n _ _ _ h1 fun x hx=>hs x (by rw[e];exact List.mem_append_left _ hx)⟩,sK h2 (fun x hx=>hs x (by rw[e];exact List.mem_append_right _ hx)),e⟩
structure Rd(P:Program)(W:World)(t:TypeId)(S:List D->Prop):Prop where
 read:∀ {H:Type} {enc:TypeId×Value->H} {sp:Nat->Bool} {held:Bool} {fuel:Nat} {cs:List Value} {x:DataW H×List MemPlace},DataW.trod enc P W 0 sp held fuel t cs=some x -> ∃ ds,S ds/\bt (tF W) W ds cs
section
variable {P : Program} {W : World} {t : TypeId}
theorem Rd.int{k:IntKind}(ht:P.underlying t=some (.int k)):Rd P W t fun ds=>∃ n,ds = [.int k n]:=by
 refine⟨?_⟩;intro H enc sp held fuel cs x h;obtain⟨n,rfl,_,_⟩:=DataW.trod_int ht h;exact⟨[.int k n],⟨n,rfl⟩,_,[],rfl,rfl,rfl⟩
theorem Rd.bool(ht:P.underlying t=some .bool):Rd P W t fun ds=>∃ b,ds = [.bool b]:=by
 refine⟨?_⟩;intro H enc sp held fuel cs x h;obtain⟨n,rfl,_⟩:=DataW.trod_bool ht h;exact⟨[.bool n],⟨n,rfl⟩,_,[],rfl,rfl,rfl⟩
theorem Rd.str(ht:P.underlying t=some .string):Rd P W t fun ds=>∃ s,ds = [.str s]:=by
 refine⟨?_⟩;intro H enc sp held fuel cs x h;obtain⟨n,rfl,_,_⟩:=DataW.trod_string ht h;exact⟨[.str n],⟨n,rfl⟩,_,[],rfl,rfl,rfl⟩
theorem Rd.mono{S S':List D->Prop}(h:Rd P W t S)(hS:∀ ds,S ds->S' ds):Rd P W t S':=by
 refine⟨?_⟩;intro H enc sp held fuel cs x hx;obtain⟨ds,h1,h2⟩:=h.read hx;exact⟨ds,hS ds h1,h2⟩
theorem JD{b off:Nat}{v:Value}(h:W.cell? ⟨b,off,none⟩=some v):off<tF W b:=by
 unfold World.cell? at h;unfold tF;simp only at h;split at h
 ·rename_i c t' f hb
  rw[hb];simp only[Option.isSome_none,Bool.false_eq_true,if_false]at h;obtain⟨dh,_⟩:=Array.getElem?_eq_some_iff.1 h;simp only;omega
 ·cases h
theorem FN:∀ {ds:List D} {cs:List Value} {b off:Nat},bt (tF W) W ds cs->(∀ i v,cs[i]?=some v->W.cell? ⟨b,off+i,none⟩=some v)->dm (tF W) W b off ds
 | [],_,_,_,_,_=>trivial
 | d::r,_,b,off,h,hc=>by
  obtain⟨x,l',rfl,hd,hl⟩:=h;have h0:=hc 0 x rfl;refine⟨JD h0,⟨x,h0,hd⟩,FN hl fun i v hv=>?_⟩;have:=hc (i+1) v hv
  rwa [show off+(i+1)=off+1+i by omega]at this
theorem Bo{a:Addr}{k:Nat}{cs:List Value}(h:W.cells? 0 a k=some cs):cs.length=k /\ ∀ i v,cs[i]?=some v->W.cell? (a.add i)=some v:=by
 unfold World.cells? at h;rw[if_pos (Nat.zero_le _)]at h;have hl:cs.length=k:=by simpa using mapM_some_length h
 refine⟨hl,fun i v hv=>?_⟩;have hi:i<k:=by
  have:=(List.getElem?_eq_some_iff.1 hv).1;omega
 rw[mapM_some_get h i i (by simp[hi]),hv]
theorem FO{e:TypeId}{S:List D->Prop}{b:Nat}{k:Nat}:∀ {n:Nat} {off:Nat},(∀ i,i<n -> ∃ cs ds,cs.length=k/\(∀ j v,cs[j]?=some v->W.cell? ⟨b,off+i*k+j,none⟩=some v)/\S ds/\bt (tF W) W ds cs) ->
  ∃ es:List (List D),es.length=n/\(∀ e∈es,S e)/\dU (tF W) W b off k es
 | 0,off,_=>⟨[],rfl,fun e h=>by(cases h),trivial⟩
 | n+1,off,h=>by
  obtain⟨cs,ds,h1,h2,h3,h4⟩:=h 0 (by omega);obtain⟨es,g1,g2,g3⟩:=FO (e:=e) (S:=S) (n:=n) (off:=off+k) fun i hi=>by
   obtain⟨cs,ds,h1,h2,h3,h4⟩:=h (i+1) (by omega);refine⟨cs,ds,h1,fun j v hv=>?_,h3,h4⟩;have:=h2 j v hv
   rwa [show off+(i+1)*k+j=off+k+i*k+j by rw[Nat.add_mul];omega]at this
  refine⟨ds::es,by simp[g1],fun e he=>?_,?_,?_,g3⟩
  ·rcases List.mem_cons.1 he with rfl|he
   ·exact h3
   ·exact g2 e he
  ·rw[<- h4.length,h1]
  ·exact FN h4 fun i v hv=>by simpa using h2 i v hv
theorem Rd.slice{e:TypeId}{S:List D->Prop}(ht:P.underlying t=some (.slice e)){k:Nat}(hk:P.cellsOf e=k)(vI:0<k)(he:Rd P W e S):Rd P W t fun ds=>∃ es,ds = [.vs es] /\ ∀ e∈es,S e:=by
 subst hk;refine⟨?_⟩;intro H enc sp held fuel cs x h;rcases DataW.trod_slice ht h with⟨rfl,_⟩|⟨a,len,cap,elems,rest,n,rfl,rfl,_,_,hl,_,hlen,O8,_,_⟩
 ·exact⟨[.vs []],⟨[],rfl,fun e h=>by(cases h)⟩,_,[],rfl,⟨none,0,0,rfl,rfl,Nat.le_refl _,fun h=>absurd rfl h⟩,rfl⟩
 ·by_cases h0:len=0
  ·subst h0
   exact⟨[.vs []],⟨[],rfl,fun e h=>by(cases h)⟩,_,[],rfl,⟨some a,0,cap,rfl,rfl,hl,fun h=>absurd rfl h⟩,rfl⟩
  have one:∀ i,i<len -> ∃ cs ds,W.cells? 0 (a.add (i*P.cellsOf e)) (P.cellsOf e)=some cs/\S ds/\bt (tF W) W ds cs:=by
   intro i hi;have h1:=O8 i hi;rw[List.getElem?_eq_getElem (by omega)]at h1;obtain⟨cs,h2,h3⟩:=Option.bind_eq_some_iff.1 h1;obtain⟨ds,h4,h5⟩:=he.read h3;exact⟨cs,ds,h2,h4,h5⟩
  have hs:a.spot=none:=by
   obtain⟨cs,ds,h1,_,h3⟩:=one 0 (by omega);obtain⟨g1,g2⟩:=Bo h1;have dh:0<cs.length:=by omega
   have:=g2 0 cs[0] (List.getElem?_eq_getElem dh);have:=World.cell?_spot this;simpa[Addr.add]using this
  obtain⟨b,off,spot⟩:=a;simp only at hs;subst hs;obtain⟨es,g1,g2,g3⟩:=FO (e:=e) (S:=S) (W:=W) (b:=b) (k:=P.cellsOf e) (n:=len) (off:=off) fun i hi=>by
   obtain⟨cs,ds,h1,h2,h3⟩:=one i hi;obtain⟨k1,k2⟩:=Bo h1;refine⟨cs,ds,k1,fun j v hv=>?_,h2,h3⟩;have:=k2 j v hv;have e1:∀ n m:Nat,(Addr.add ⟨b,n,none⟩ m)=⟨b,n+m,none⟩:=by
    intro n m;unfold Addr.add;split
    ·rename_i h;subst h;rfl
    ·rfl
   rw[e1,e1]at this;exact this
  exact⟨[.vs es],⟨es,rfl,g2⟩,_,[],rfl,⟨some ⟨b,off,none⟩,len,cap,rfl,g1.symm,hl,fun _=>⟨b,off,_,rfl,vI,g3⟩⟩,rfl⟩
def Lr:List (List D->Prop)->List D->Prop
 | [],ds=>ds = []
 | S::r,ds=>∃ a b,ds=a++b/\S a/\Lr r b
theorem bt.app{F:Nat->Nat}{w:World}:∀ {a b:List D} {l m:List Value},bt F w a l->bt F w b m->bt F w (a++b) (l++m)
 | [],b,l,m,h1,h2=>by
  have:l = []:=h1;subst this;exact h2
 | d::a,b,l,m,h1,h2=>by
  obtain⟨x,l',rfl,hd,hl⟩:=h1;exact⟨x,l'++m,rfl,hd,bt.app hl h2⟩
inductive UO(P:Program)(W:World):List Field->Nat->Nat->List (List D->Prop)->Prop where
 | nil (n:Nat):UO P W [] n n []
 | cons {f:Field} {fs:List Field} {off n k:Nat} {S:List D->Prop} {Ss:List (List D->Prop)} (ho:f.offset=off) (hk:P.cellsOf f.type=k) (hf:Rd P W f.type S) (hr:UO P W fs (off+k) n Ss):UO P W (f::fs) off n (S::Ss)
theorem NT{fs:List Field}{off n:Nat}{Ss:List (List D->Prop)}(h:UO P W fs off n Ss):∀ {H:Type} {enc:TypeId×Value->H} {sp:Nat->Bool} {held:Bool} {fuel:Nat} {cs:List Value} {xs:List (DataW H×List MemPlace)},cs.length=n ->
  fs.mapM (fun f=>DataW.trod enc P W 0 sp held fuel f.type ((cs.drop f.offset).take (P.cellsOf f.type)))=some xs -> ∃ ds,Lr Ss ds/\bt (tF W) W ds (cs.drop off):=by
 induction h with
 | nil m=>
  intro H enc sp held fuel cs xs hn _;rw[List.drop_eq_nil_of_le (by omega)];exact⟨[],rfl,rfl⟩
 | @cons f fs off m k S Ss ho hk hf hr ih=>
  intro H enc sp held fuel cs xs hn hm;rw[List.mapM_cons]at hm;simp only[Option.bind_eq_bind,Option.bind_eq_some_iff,Option.pure_def,Option.some.injEq]at hm;obtain⟨y,hy,ys,Tz,_⟩:=hm;obtain⟨UX,h1,h2⟩:=hf.read hy;obtain⟨UY,h3,h4⟩:=ih hn Tz;rw[ho,hk]at h2;refine⟨UX++UY,⟨UX,UY,rfl,h1,h3⟩,?_⟩;have h5:=bt.app h2 h4
  rwa [show(cs.drop off).take k++cs.drop (off+k)=cs.drop off by rw[<- List.drop_drop];exact List.take_append_drop _ _]at h5
theorem Rd.struct{fs:Array Field}{n:Nat}{Ss:List (List D->Prop)}(ht:P.underlying t=some (.struct fs))(hn:P.cellsOf t=n)(hf:UO P W fs.toList 0 n Ss):Rd P W t (Lr Ss):=by
 refine⟨?_⟩;intro H enc sp held fuel cs x h
 cases fuel with
 | zero=>simp[DataW.trod]at h
 | succ fuel=>
  unfold DataW.trod at h;rw[ht]at h;simp only at h;split at h
  ·rename_i hl
   obtain⟨xs,Df,_⟩:=Option.map_eq_some_iff.1 h;obtain⟨ds,h1,h2⟩:=NT hf (hl.trans hn) Df;exact⟨ds,h1,by simpa using h2⟩
  ·cases h
end
theorem rX{α:Type}{f:α->List D}{S:List D->Prop}(h:∀ ds,S ds -> ∃ a,ds=f a):∀ {es:List (List D)},(∀ e∈es,S e) -> ∃ l:List α,es=l.map f
 | [],_=>⟨[],rfl⟩
 | e::r,he=>by
  obtain⟨a,ha⟩:=h e (he e (by simp));obtain⟨l,hl⟩:=rX h (es:=r) fun x hx=>he x (by simp[hx]);exact⟨a::l,by rw[ha,hl];rfl⟩
def RR(l:List Nat):Prop:=∀ n∈l,n<=reachBytes
theorem l6{a b:List Nat}:RR (a++b)↔RR a/\RR b:=
 ⟨fun h=>⟨fun n hn=>h n (List.mem_append_left _ hn),fun n hn=>h n (List.mem_append_right _ hn)⟩,fun h n hn=>by
  rcases List.mem_append.1 hn with hn|hn
  ·exact h.1 n hn
  ·exact h.2 n hn⟩
theorem QG{l:List Nat}(h:l.all (· <=reachBytes)=true):RR l:=fun n hn=>by
 have:=List.all_eq_true.1 h n hn;simpa using this
structure DU(P:Program)(W:World)(t:TypeId)(S:List D->Prop):Prop where
 read:∀ {H:Type} {enc:TypeId×Value->H} {sp:Nat->Bool} {held:Bool} {fuel:Nat} {cs:List Value} {x:DataW H×List MemPlace},DataW.trod enc P W 0 sp held fuel t cs=some x->RR (x.1.weights P t) -> ∃ ds,S ds/\bt (tF W) W ds cs
section
variable {P : Program} {W : World} {t : TypeId}
theorem Rd.z{S:List D->Prop}(h:Rd P W t S):DU P W t S:=⟨fun hx _=>h.read hx⟩
theorem DU.mono{S S':List D->Prop}(h:DU P W t S)(hS:∀ ds,S ds->S' ds):DU P W t S':=by
 refine⟨?_⟩;intro H enc sp held fuel cs x hx hw;obtain⟨ds,h1,h2⟩:=h.read hx hw;exact⟨ds,hS ds h1,h2⟩
theorem rE{H:Type}{e:TypeId}:∀ {l:List (DataW H)} {d:DataW H},d∈l->RR (DataW.weightsAll P e l)->RR (d.weights P e)
 | a::r,d,hd,h=>by
  rw[DataW.weightsAll]at h;rcases List.mem_cons.1 hd with rfl|hd
  ·exact(l6.1 h).1
  ·exact rE hd (l6.1 h).2
inductive Ly(P:Program)(W:World):List Field->Nat->Nat->List (List D->Prop)->Prop where
 | nil (n:Nat):Ly P W [] n n []
 | cons {f:Field} {fs:List Field} {off n k:Nat} {S:List D->Prop} {Ss:List (List D->Prop)} (ho:f.offset=off) (hk:P.cellsOf f.type=k) (hf:DU P W f.type S) (hr:Ly P W fs (off+k) n Ss):Ly P W (f::fs) off n (S::Ss)
theorem KU{fs:List Field}{off n:Nat}{Ss:List (List D->Prop)}(h:Ly P W fs off n Ss):∀ {H:Type} {enc:TypeId×Value->H} {sp:Nat->Bool} {held:Bool} {fuel:Nat} {cs:List Value} {xs:List (DataW H×List MemPlace)},cs.length=n ->
  fs.mapM (fun f=>DataW.trod enc P W 0 sp held fuel f.type ((cs.drop f.offset).take (P.cellsOf f.type)))=some xs->RR (DataW.weightsEach P (fs.map (·.type)) (xs.map (·.1))) -> ∃ ds,Lr Ss ds/\bt (tF W) W ds (cs.drop off):=by
 induction h with
 | nil m=>
  intro H enc sp held fuel cs xs hn _ _;rw[List.drop_eq_nil_of_le (by omega)];exact⟨[],rfl,rfl⟩
 | @cons f fs off m k S Ss ho hk hf hr ih=>
  intro H enc sp held fuel cs xs hn hm hw;rw[List.mapM_cons]at hm;simp only[Option.bind_eq_bind,Option.bind_eq_some_iff,Option.pure_def,Option.some.injEq]at hm;obtain⟨y,hy,ys,Tz,rfl⟩:=hm;rw[List.map_cons,List.map_cons,DataW.weightsEach]at hw;obtain⟨Dc,E9⟩:=l6.1 hw;obtain⟨UX,h1,h2⟩:=hf.read hy Dc;obtain⟨UY,h3,h4⟩:=ih hn Tz E9;rw[ho,hk]at h2;refine⟨UX++UY,⟨UX,UY,rfl,h1,h3⟩,?_⟩;have h5:=bt.app h2 h4
  rwa [show(cs.drop off).take k++cs.drop (off+k)=cs.drop off by rw[<- List.drop_drop];exact List.take_append_drop _ _]at h5
theorem DU.struct{fs:Array Field}{n:Nat}{Ss:List (List D->Prop)}(ht:P.underlying t=some (.struct fs))(hn:P.cellsOf t=n)(hf:Ly P W fs.toList 0 n Ss):DU P W t (Lr Ss):=by
 refine⟨?_⟩;intro H enc sp held fuel cs x h hw
 cases fuel with
 | zero=>simp[DataW.trod]at h
 | succ fuel=>
  unfold DataW.trod at h;rw[ht]at h;simp only at h;split at h
  ·rename_i hl
   obtain⟨xs,Df,rfl⟩:=Option.map_eq_some_iff.1 h;simp only at hw;rw[DataW.weights,ht]at hw;obtain⟨ds,h1,h2⟩:=KU hf (hl.trans hn) Df hw;exact⟨ds,h1,by simpa using h2⟩
  ·cases h
theorem DU.array{e:TypeId}{n k:Nat}{S:List D->Prop}(ht:P.underlying t=some (.array n e))(hn:P.cellsOf t=n*k)(hk:P.cellsOf e=k)(he:DU P W e S) :
  DU P W t fun ds=>∃ Gt:List (List D),ds=Gt.flatten/\Gt.length=n /\ ∀ d∈Gt,S d:=by
 refine⟨?_⟩;intro H enc sp held fuel cs x h hw
 cases fuel with
 | zero=>simp[DataW.trod]at h
 | succ fuel=>
  unfold DataW.trod at h;rw[ht]at h;simp only at h;split at h
  ·rename_i hl
   obtain⟨xs,Df,rfl⟩:=Option.map_eq_some_iff.1 h;simp only at hw;rw[DataW.weights,ht]at hw;rw[hk]at Df;have hlen:xs.length=n:=by simpa using mapM_some_length Df
   have step:∀ m,m<=n -> ∃ Gt:List (List D),Gt.length=m/\(∀ d∈Gt,S d)/\bt (tF W) W Gt.flatten (cs.take (m*k)):=by
    intro m
    induction m with
    | zero=>intro _;exact⟨[],rfl,fun d h=>by(cases h),by rw[Nat.zero_mul];exact(List.take_zero:cs.take 0 = [])⟩
    | succ m ih=>
     intro hm;obtain⟨Gt,h1,h2,h3⟩:=ih (by omega);have hg:=mapM_some_get Df m m (by rw[List.getElem?_range (by omega)]);have AY:xs[m]?=some xs[m]:=List.getElem?_eq_getElem (by omega);rw[AY]at hg;obtain⟨d,h4,h5⟩:=he.read hg (rE (List.mem_map.2 ⟨_,List.mem_of_getElem? AY,rfl⟩) hw);refine⟨Gt ++ [d],by simp[h1],fun u hu=>?_,?_⟩
     ·rcases List.mem_append.1 hu with hu|hu
      ·exact h2 u hu
      ·rw[List.mem_singleton]at hu;subst hu;exact h4
     ·rw[Nat.add_mul,Nat.one_mul,List.take_add]
      simpa using bt.app h3 h5
   obtain⟨Gt,h1,h2,h3⟩:=step n (Nat.le_refl _);refine⟨Gt.flatten,⟨Gt,rfl,h1,h2⟩,?_⟩
   rwa [List.take_of_length_le (by omega)]at h3
  ·cases h
end
end Go.PX
namespace Go.PX
theorem rn{H:Type}{enc:TypeId×Value->H}{a:Assume}{C:Checked}{os:Os}{f:FuncId}{fn:Func}{s:ChangeSpec}{conds:List PathCond}{apart fresh handsOn again:Bool}{X:World->Array Value->Prop}
  (hX:∀ (w w':World) (args:Array Value),w.heap=w'.heap->X w args->X w' args)
  (own:ownKnob C.prog.godebug=none) (started:os.Started) (TR:C.prog.inits.idxOf? f=none) (hfn:C.prog.funcs[f]?=some fn)
  (witness:∃ (w:World) (tape:Tape) (i:Input),w.os=os/\(w.forCall tape i).Shaped C.prog/\i.vars = []/\Input.okWide C.prog (w.forCall tape i) .any w.heap.size f i /\
   ((s.pre enc C.prog fn conds apart (w.forCall tape i).memory i.args/\X (w.forCall tape i).memory i.args)/\sizedMet enc C.prog fn (OpenSpec.ofChange s) apart (w.forCall tape i).memory i.args)/\a.holds C.prog (lone (Frame.enter C.prog f i.args .normal) [] (w.forCall tape i)))
  (Ma:∀ (W:World) (base:Nat) (args:Array Value) (ds gs:List (DataW H)) (before:List MemPlace),
   (∀ (j:Nat) t v,fn.params[j]?=some t->args[j]?=some v->Value.okWide C.prog W .any base t v) ->
   DataW.Whole enc C.prog fn.params.toList s.vars apart W args.toList ds gs before ->
   conds.all (PathCond.test C.prog ⟨fn.params.toList,ds,s.plain.varTypes C.prog,gs⟩)=true ->
   (DataW.weightsEach C.prog (fn.params.toList++s.plain.varTypes C.prog) (ds++gs)).all (· <=reachBytes)=true->X W args->W.ShapedOpen C.prog ->
   Calls C.prog f args W fun e W'=>∃ v,e = .returned v/\s.post enc C.prog fn apart fresh handsOn again W args v W') :
  ReturnsInHanded a C os f .any (fun w args=>(s.pre enc C.prog fn conds apart w args/\X w args)/\sizedMet enc C.prog fn (OpenSpec.ofChange s) apart w args) (s.post enc C.prog fn apart fresh handsOn again):=by
 refine returnsInHanded_of_calls own started TR witness ?_;intro w tape i _ OB _ gL aa6 aaU;obtain⟨_,_,_,fn',aaQ,_,_,_,_,uA⟩:=gL;have e:fn'=fn:=Option.some.inj (aaQ.symm.trans hfn);subst e;obtain⟨⟨⟨ds,gs,before,hw,hc⟩,hx⟩,hz⟩:=aa6;have Xl:=DataW.Whole.of_heap (w':=w.forCall tape i) (by rfl) hw;refine(Ma (w.forCall tape i) w.heap.size i.args ds gs before uA Xl hc (hz.weights hw) (hX _ _ _ (by rfl) hx) OB).mono fun e W' ⟨v,he,hp⟩=>?_;subst he;exact ChangeSpec.post_blind hp
theorem qO{P:Program}{w:World}{n nm:String}{d:DataW Unit}{g t:Nat}{ms:Array (String×TypeId)}(h:Lib.VarReads P w n (.iface nm d))(hg:P.globalNamed n=some g)(ht:(P.globals[g]?).map (·.type)=some t)(hi:P.underlying t=some (.interface ms)) :
  ∃ u v,w.cell? ⟨g,0,none⟩=some (.iface u v):=by
 obtain⟨g0,t0,cs,fuel,p,h1,h2,h3,h4⟩:=h;obtain rfl:=Option.some.inj (hg.symm.trans h1);obtain rfl:=Option.some.inj (ht.symm.trans h2);have hc:=World.var?_cell hg h3 0
 cases fuel with
 | zero=>simp[DataW.trod]at h4
 | succ fuel=>
  simp only[DataW.trod,hi]at h4;obtain⟨l⟩:=cs;rcases l with _|⟨x,_|⟨y,r⟩⟩
  ·cases h4
  ·cases x with
   | iface u v=>exact⟨u,v,by simpa using hc⟩
   | nilIface=>cases h4
   | _=>cases h4
  ·cases x<;>cases h4
end Go.PX
namespace Go.Proofs.YtmbefpmbnhdbpaaGreatDoor
open Go.ChangeShapes Go.WideShapes Go.ChangeAt Go.RowKit Go.PX
noncomputable def wY:List (String×DataW Unit):=Rows.topStoodRow.laid
theorem own:ownKnob Tryz.prog.godebug=none:=by kernel_rfl
theorem kids:Kids Tryz.prog (· < Tryz.prog.types.size):=kids_rows (by kernel_rfl) (by kernel_rfl)
theorem full:∀ t e,t<Tryz.prog.types.size->Tryz.prog.underlying t=some (.slice e)->0<Tryz.prog.cellsOf e:=slices_full_of Tryz.prog (by kernel_rfl)
theorem aax : Tryz.prog.globalNamed "internal/strconv.uint64pow10" = some 3 := by kernel_rfl
theorem aaw : Tryz.prog.globalNamed "internal/bytealg.MaxLen" = some 0 := by kernel_rfl
theorem V4 : Tryz.prog.globalNamed "strconv.ErrSyntax" = some 1 := by kernel_rfl
theorem V3 : Tryz.prog.globalNamed "strconv.ErrRange" = some 2 := by kernel_rfl
theorem ab3:(Tryz.prog.globals[3]?).map (·.type)=some 372:=by kernel_rfl
theorem ab5:(Tryz.prog.globals[1]?).map (·.type)=some 295:=by kernel_rfl
theorem ab4:(Tryz.prog.globals[2]?).map (·.type)=some 295:=by kernel_rfl
theorem Qu{W:World}(h:W.ShapedOpen Tryz.prog):∃ m,W.cell? ⟨0,0,none⟩=some (.int .i64 m):=
 Go.Proofs.cell_of_shapedOpen_int (zero:=#[.int .i64 0]) (t:=3) h (of_decide_eq_true (by kernel_rfl)) (by kernel_rfl) rfl (by kernel_rfl) (by kernel_rfl) Tryz.underlying3
set_option maxRecDepth 100000 in
theorem KR{W:World}(hL:laidMetH Tryz.prog wY W)(OB:W.ShapedOpen Tryz.prog):Laid Tryz.prog W:=by
 rw[MakeChecks.laidMetH_plain _ _ _ (by kernel_rfl)]at hL;refine⟨fun g hg=>?_,fun g hg=>?_,fun g hg=>?_,fun g hg=>?_⟩
 ·have hr : Lib.VarReads Tryz.prog W "internal/strconv.uint64pow10" Rows.laid_internal_strconv_uint64pow10 := Lib.laidMet.reads hL (.tail _ (.tail _ (.head _)))
  obtain⟨g0,t0,cs,fuel,p,h1,h2,h3,h4⟩:=hr;obtain rfl:=Option.some.inj (aax.symm.trans h1);obtain rfl:=Option.some.inj (ab3.symm.trans h2);unfold Lib.TabIs;rw[h3,<- Lib.cells_of_tab (k:=.u64) (zs:=Lib.pow10Tab) Tryz.underlying372 Tryz.underlying335 (by kernel_rfl) (by kernel_rfl) h4]
 ·obtain rfl:=Option.some.inj (aaw.symm.trans hg)
  exact Qu OB
 ·obtain rfl:=Option.some.inj (V4.symm.trans hg)
  exact qO (Lib.laidMet.reads hL (.tail _ (.tail _ (.tail _ (.tail _ (.tail _ (.head _))))))) V4 ab5 Tryz.underlying295
 ·obtain rfl:=Option.some.inj (V3.symm.trans hg)
  exact qO (Lib.laidMet.reads hL (.tail _ (.tail _ (.tail _ (.tail _ (.head _)))))) V3 ab4 Tryz.underlying295
theorem DQ(os:Os)(args:Array Value):laidMetH Tryz.prog wY ((World.laidAll Tryz.prog os wY).forCall (fun _ _=>0) ⟨#[],args,[]⟩).memory:=by
 rw[MakeChecks.laidMetH_plain _ _ _ (by kernel_rfl)];exact laidMet_laidAll _ (by kernel_rfl) (by kernel_rfl)
theorem Bf(os:Os)(args:Array Value):((World.laidAll Tryz.prog os wY).forCall (fun _ _=>0) ⟨#[],args,[]⟩).Shaped Tryz.prog:=
 World.shaped_of_ZipB (by kernel_rfl) (by kernel_rfl)
end Go.Proofs.YtmbefpmbnhdbpaaGreatDoor
namespace Go.PX
def tys:fA:=(.nd (.nd (.nd (.nd (.nd (.nd (.nd (.nd .lf 1
 ⟨1,8,.other,false,false,some [.nilf]⟩
 .lf) 2
 ⟨1,8,.int .i64,false,false,some [.int .i64 0]⟩
 .lf) 3
 ⟨1,8,.int .i64,false,false,some [.int .i64 0]⟩
 (.nd .lf 4
 ⟨1,1,.bool,false,false,some [.bool false]⟩
 .lf)) 5
 ⟨1,1,.int .u8,false,false,some [.int .u8 0]⟩
 (.nd (.nd .lf 9
 { size:=1,bytes:=16,kd:=.str,isAgg:=false,held:=false,zero:=some [.str ⟨#[]⟩] }
 .lf) 20
 ⟨1,16,.iface,false,false,some [.nili]⟩
 (.nd .lf 21
 ⟨1,4,.int .i32,false,false,some [.int .i32 0]⟩
 .lf))) 22
 ⟨1,24,.slice 79,false,false,some [.nils]⟩
 (.nd (.nd (.nd .lf 24
 ⟨2,32,.struct [(0,3),(1,22)],true,false,some [.int .i64 0,.nils]⟩
 .lf) 25
 ⟨1,24,.slice 88,false,false,some [.nils]⟩
 (.nd .lf 26
 ⟨1,24,.slice 86,false,false,some [.nils]⟩
 .lf)) 28
 ⟨4,64,.struct [(0,25),(1,26),(2,3),(3,3)],true,false,some [.nils,.nils,.int .i64 0,.int .i64 0]⟩
 (.nd (.nd .lf 29
 ⟨1,24,.slice 240,false,false,some [.nils]⟩
 .lf) 30
 ⟨2,48,.array 2 29,true,false,some [.nils,.nils]⟩
 (.nd .lf 31
 ⟨2,2,.array 2 5,true,false,some [.int .u8 0,.int .u8 0]⟩
 .lf)))) 33
 ⟨5,56,.struct [(0,30),(2,31),(4,5)],true,false,some [.nils,.nils,.int .u8 0,.int .u8 0,.int .u8 0]⟩
 (.nd (.nd (.nd (.nd .lf 34
 ⟨1,8,.int .i64,false,false,some [.int .i64 0]⟩
 .lf) 39
 ⟨1,24,.slice 52,false,false,some [.nils]⟩
 (.nd .lf 43
 ⟨2,16,.struct [(0,3),(1,3)],true,false,some [.int .i64 0,.int .i64 0]⟩
 .lf)) 49
 ⟨2,16,.struct [(0,3),(1,3)],true,false,some [.int .i64 0,.int .i64 0]⟩
 (.nd (.nd .lf 52
 ⟨1,24,.slice 3,false,false,some [.nils]⟩
 .lf) 56
 ⟨1,24,.slice 49,false,false,some [.nils]⟩
 (.nd .lf 58
 ⟨8,80,.struct [(0,3),(1,56),(2,49),(4,49),(6,3),(7,3)],true,false,some [.int .i64 0,.nils,.int .i64 0,.int .i64 0,.int .i64 0,.int .i64 0,.int .i64 0,.int .i64 0]⟩
 .lf))) 59
 ⟨1,24,.slice 162,false,false,some [.nils]⟩
 (.nd (.nd (.nd .lf 61
 ⟨10,128,.struct [(0,58),(8,52),(9,59)],true,false,some [.int .i64 0,.nils,.int .i64 0,.int .i64 0,.int .i64 0,.int .i64 0,.int .i64 0,.int .i64 0,.nils,.nils]⟩
 .lf) 62
 ⟨1,24,.slice 5,false,false,some [.nils]⟩
 (.nd .lf 64
 ⟨6,80,.struct [(0,62),(1,33)],true,false,some [.nils,.nils,.nils,.int .u8 0,.int .u8 0,.int .u8 0]⟩
 .lf)) 67
 ⟨2,32,.struct [(0,3),(1,52)],true,false,some [.int .i64 0,.nils]⟩
 (.nd (.nd .lf 72
 ⟨1,24,.slice 4,false,false,some [.nils]⟩
 .lf) 76
 ⟨1,24,.slice 9,false,false,some [.nils]⟩
 (.nd .lf 77
 ⟨1,24,.slice 84,false,false,some [.nils]⟩
 .lf))))) 79
 { size:=6,bytes:=72,kd:=(.struct [(0,9),(1,49),(3,49),(5,77)]),isAgg:=true,held:=false,zero:=some [.str ⟨#[]⟩,.int .i64 0,.int .i64 0,.int .i64 0,.int .i64 0,.nils] }
 (.nd (.nd (.nd (.nd (.nd .lf 84
 { size:=4,bytes:=40,kd:=(.struct [(0,3),(1,3),(2,9),(3,3)]),isAgg:=true,held:=false,zero:=some [.int .i64 0,.int .i64 0,.str ⟨#[]⟩,.int .i64 0] }
 .lf) 86
 ⟨2,16,.struct [(0,3),(1,3)],true,false,some [.int .i64 0,.int .i64 0]⟩
 (.nd .lf 88
 { size:=3,bytes:=48,kd:=(.struct [(0,9),(1,3),(2,52)]),isAgg:=true,held:=false,zero:=some [.str ⟨#[]⟩,.int .i64 0,.nils] }
 .lf)) 111
 ⟨1,24,.slice 43,false,false,some [.nils]⟩
 (.nd (.nd .lf 131
 ⟨1,8,.other,false,false,some [.nilp]⟩
 .lf) 134
 ⟨1,8,.other,false,false,some [.nilp]⟩
 (.nd .lf 137
 ⟨5,40,.array 5 3,true,false,some [.int .i64 0,.int .i64 0,.int .i64 0,.int .i64 0,.int .i64 0]⟩
 .lf))) 139
 ⟨6,48,.struct [(0,3),(1,137)],true,false,some [.int .i64 0,.int .i64 0,.int .i64 0,.int .i64 0,.int .i64 0,.int .i64 0]⟩
 (.nd (.nd (.nd .lf 140
 ⟨1,8,.map 139 3,false,false,some [.nilm]⟩
 .lf) 142
 ⟨1,8,.other,false,false,some [.nilf]⟩
 (.nd .lf 143
 ⟨1,8,.other,false,false,some [.nilf]⟩
 .lf)) 146
 ⟨1,8,.other,false,false,some [.nilp]⟩
 (.nd (.nd .lf 152
 ⟨2,16,.struct [(0,3),(1,3)],true,false,some [.int .i64 0,.int .i64 0]⟩
 .lf) 153
 ⟨1,24,.slice 152,false,false,some [.nils]⟩
 (.nd .lf 154
 ⟨1,24,.slice 285,false,false,some [.nils]⟩
 .lf)))) 155
 ⟨1,24,.slice 153,false,false,some [.nils]⟩
 (.nd (.nd (.nd (.nd .lf 157
 ⟨5,88,.struct [(0,24),(2,154),(3,155),(4,3)],true,false,some [.int .i64 0,.nils,.nils,.nils,.int .i64 0]⟩
 .lf) 162
 ⟨2,16,.struct [(0,3),(1,4)],true,false,some [.int .i64 0,.bool false]⟩
 (.nd .lf 171
 ⟨1,24,.slice 275,false,false,some [.nils]⟩
 .lf)) 173
 { size:=2,bytes:=40,kd:=(.struct [(0,9),(1,171)]),isAgg:=true,held:=false,zero:=some [.str ⟨#[]⟩,.nils] }
 (.nd (.nd .lf 178
 ⟨1,24,.slice 173,false,false,some [.nils]⟩
 .lf) 186
 ⟨1,8,.other,false,false,some [.nilf]⟩
 (.nd .lf 187
 ⟨1,8,.other,false,false,some [.nilf]⟩
 .lf))) 190
 ⟨3,56,.struct [(0,67),(2,72)],true,false,some [.int .i64 0,.nils,.nils]⟩
 (.nd (.nd (.nd .lf 201
 ⟨5,72,.struct [(0,28),(4,3)],true,false,some [.nils,.nils,.int .i64 0,.int .i64 0,.int .i64 0]⟩
 .lf) 202
 ⟨1,8,.other,false,false,some [.nilf]⟩
 (.nd .lf 206
 ⟨7,56,.struct [(0,3),(1,139)],true,false,some [.int .i64 0,.int .i64 0,.int .i64 0,.int .i64 0,.int .i64 0,.int .i64 0,.int .i64 0]⟩
 .lf)) 207
 ⟨1,8,.map 206 3,false,false,some [.nilm]⟩
 (.nd (.nd .lf 208
 ⟨1,8,.map 152 3,false,false,some [.nilm]⟩
 .lf) 214
 { size:=1,bytes:=16,kd:=(.struct [(0,9)]),isAgg:=true,held:=false,zero:=some [.str ⟨#[]⟩] }
 (.nd .lf 217
 ⟨1,16,.iface,false,false,some [.nili]⟩
 .lf)))))) 220
 ⟨1,8,.map 3 3,false,false,some [.nilm]⟩
 (.nd (.nd (.nd (.nd (.nd (.nd .lf 223
 ⟨1,8,.other,false,false,some [.nilf]⟩
 .lf) 224
 ⟨1,8,.other,false,false,some [.nilf]⟩
 (.nd .lf 226
 ⟨1,8,.map 3 9,false,false,some [.nilm]⟩
 .lf)) 228
 { size:=2,bytes:=24,kd:=(.struct [(0,9),(1,3)]),isAgg:=true,held:=false,zero:=some [.str ⟨#[]⟩,.int .i64 0] }
 (.nd (.nd .lf 238
 ⟨1,8,.other,false,false,some [.nilp]⟩
 .lf) 240
 ⟨1,2,.int .u16,false,false,some [.int .u16 0]⟩
 (.nd .lf 242
 ⟨3,24,.struct [(0,131),(1,140),(2,140)],true,false,some [.nilp,.nilm,.nilm]⟩
 .lf))) 243
 ⟨1,8,.other,false,false,some [.nilf]⟩
 (.nd (.nd (.nd .lf 252
 ⟨1,8,.other,false,false,some [.nilf]⟩
 .lf) 253
 ⟨1,8,.other,false,false,some [.nilp]⟩
 (.nd .lf 256
 ⟨1,8,.other,false,false,some [.nilf]⟩
 .lf)) 259
 ⟨1,8,.other,false,false,some [.nilf]⟩
 (.nd (.nd .lf 264
 ⟨3,40,.struct [(0,67),(2,3)],true,false,some [.int .i64 0,.nils,.int .i64 0]⟩
 .lf) 267
 ⟨1,8,.other,false,false,some [.nilf]⟩
 (.nd .lf 268
 ⟨1,8,.other,false,false,some [.nilf]⟩
 .lf)))) 270
 ⟨1,8,.other,false,false,some [.nilf]⟩
 (.nd (.nd (.nd (.nd .lf 272
 ⟨1,8,.other,false,false,some [.nilf]⟩
 .lf) 275
 ⟨4,32,.struct [(0,49),(2,49)],true,false,some [.int .i64 0,.int .i64 0,.int .i64 0,.int .i64 0]⟩
 (.nd .lf 276
 ⟨1,8,.other,false,false,some [.nilf]⟩
 .lf)) 279
 ⟨1,8,.int .u64,false,false,some [.int .u64 0]⟩
 (.nd (.nd .lf 282
 ⟨1,8,.other,false,false,some [.nilf]⟩
 .lf) 283
 ⟨1,8,.map 3 43,false,false,some [.nilm]⟩
 (.nd .lf 285
 ⟨5,40,.struct [(0,152),(2,152),(4,3)],true,false,some [.int .i64 0,.int .i64 0,.int .i64 0,.int .i64 0,.int .i64 0]⟩
 .lf))) 286
 ⟨1,8,.other,false,false,some [.nilf]⟩
 (.nd (.nd (.nd .lf 288
 ⟨0,0,.struct [],true,false,some []⟩
 .lf) 289
 ⟨1,8,.other,false,false,some [.nilf]⟩
 (.nd .lf 290
 ⟨1,8,.other,false,false,some [.nilp]⟩
 .lf)) 292
 ⟨2,32,.struct [(0,290),(1,62)],true,false,some [.nilp,.nils]⟩
 (.nd (.nd .lf 293
 ⟨1,24,.slice 20,false,false,some [.nils]⟩
 .lf) 295
 ⟨1,16,.iface,false,false,some [.nili]⟩
 (.nd .lf 300
 ⟨1,8,.other,false,false,some [.nilf]⟩
 .lf))))) 302
 ⟨1,8,.other,false,false,some [.nilp]⟩
 (.nd (.nd (.nd (.nd (.nd .lf 303
 ⟨1,24,.slice 302,false,false,some [.nils]⟩
 .lf) 304
 ⟨1,8,.other,false,false,some [.nilp]⟩
 (.nd .lf 307
 ⟨1,8,.other,false,false,some [.nilf]⟩
 .lf)) 309
 ⟨2,16,.struct [(0,3),(1,202)],true,false,some [.int .i64 0,.nilf]⟩
 (.nd (.nd .lf 310
 ⟨1,24,.slice 309,false,false,some [.nils]⟩
 .lf) 312
 { size:=120,bytes:=120,kd:=(.array 120 4),isAgg:=true,held:=false,zero:=some (.replicate 120 (.bool false)) }
 (.nd .lf 314
 ⟨128,200,.struct [(0,58),(8,312)],true,false,some [.int .i64 0,.nils,.int .i64 0,.int .i64 0,.int .i64 0,.int .i64 0,.int .i64 0,.int .i64 0,.bool false,.bool false,.bool false,.bool false,.bool false,.bool false,.bool false,.bool false,.bool false,.bool false,.bool false,.bool false,.bool false,.bool false,.bool false,.bool false,.bool false,.bool false,.bool false,.bool false,.bool false,.bool false,.bool false,.bool false,.bool false,.bool false,.bool false,.bool false,.bool false,.bool false,.bool false,.bool false,.bool false,.bool false,.bool false,.bool false,.bool false,.bool false,.bool false,.bool false,.bool false,.bool false,.bool false,.bool false,.bool false,.bool false,.bool false,.bool false,.bool false,.bool false,.bool false,.bool false,.bool false,.bool false,.bool false,.bool false,.bool false,.bool false,.bool false,.bool false,.bool false,.bool false,.bool false,.bool false,.bool false,.bool false,.bool false,.bool false,.bool false,.bool false,.bool false,.bool false,.bool false,.bool false,.bool false,.bool false,.bool false,.bool false,.bool false,.bool false,.bool false,.bool false,.bool false,.bool false,.bool false,.bool false,.bool false,.bool false,.bool false,.bool false,.bool false,.bool false,.bool false,.bool false,.bool false,.bool false,.bool false,.bool false,.bool false,.bool false,.bool false,.bool false,.bool false,.bool false,.bool false,.bool false,.bool false,.bool false,.bool false,.bool false,.bool false,.bool false,.bool false,.bool false,.bool false,.bool false,.bool false,.bool false,.bool false,.bool false]⟩
 .lf))) 316
 ⟨1,8,.other,false,false,some [.nilf]⟩
 (.nd (.nd (.nd .lf 317
 ⟨1,8,.other,false,false,some [.nilf]⟩
 .lf) 320
 ⟨1,8,.map 325 3,false,false,some [.nilm]⟩
 (.nd .lf 321
 ⟨1,8,.int .i64,false,false,some [.int .i64 0]⟩
 .lf)) 323
 ⟨1,16,.iface,false,false,some [.nili]⟩
 (.nd (.nd .lf 325
 ⟨3,32,.struct [(0,323),(1,3),(2,4)],true,false,some [.nili,.int .i64 0,.bool false]⟩
 .lf) 326
 ⟨1,8,.int .i64,false,false,some [.int .i64 0]⟩
 (.nd .lf 329
 ⟨1,8,.other,false,false,some [.nilf]⟩
 .lf)))) 333
 ⟨1,4,.int .u32,false,false,some [.int .u32 0]⟩
 (.nd (.nd (.nd (.nd .lf 335
 ⟨1,8,.int .u64,false,false,some [.int .u64 0]⟩
 .lf) 340
 ⟨1,8,.other,false,false,some [.nilp]⟩
 (.nd .lf 351
 ⟨1,8,.int .i64,false,false,some [.int .i64 0]⟩
 .lf)) 354
 ⟨1,8,.other,false,false,some [.nilp]⟩
 (.nd (.nd .lf 359
 ⟨24,24,.array 24 5,true,false,some (List.replicate 24 (.int .u8 0))⟩
 .lf) 369
 { size:=3,bytes:=48,kd:=(.struct [(0,9),(1,9),(2,295)]),isAgg:=true,held:=false,zero:=some [.str ⟨#[]⟩,.str ⟨#[]⟩,.nili] }
 (.nd .lf 372
 ⟨20,160,.array 20 335,true,false,some (List.replicate 20 (.int .u64 0))⟩
 .lf))) 373
 ⟨65,65,.array 65 5,true,false,some (List.replicate 65 (.int .u8 0))⟩
 (.nd (.nd (.nd .lf 375
 ⟨1,8,.other,false,false,some [.nilp]⟩
 .lf) 377
 { size:=1,bytes:=16,kd:=(.struct [(0,9)]),isAgg:=true,held:=false,zero:=some [.str ⟨#[]⟩] }
 (.nd .lf 378
 ⟨256,256,.array 256 5,true,false,some (List.replicate 256 (.int .u8 0))⟩
 .lf)) 380
 ⟨2,2,.struct [(0,5),(1,5)],true,false,some [.int .u8 0,.int .u8 0]⟩
 (.nd (.nd .lf 381
 ⟨32,32,.array 16 380,true,false,some (List.replicate 32 (.int .u8 0))⟩
 .lf) 382
 ⟨32,32,.array 32 5,true,false,some (List.replicate 32 (.int .u8 0))⟩
 (.nd .lf 383
 ⟨64,64,.array 64 5,true,false,some (List.replicate 64 (.int .u8 0))⟩
 .lf)))))))
def ft4:FT:=⟨[0,1,2,3,4,5,6,9,12,13,14,16,17,18,19,20,21,22,23,24,25,26,27,28,29,47,75,118,129,145],[(12,⟨[],[⟨[14],[]⟩,⟨[16],[0]⟩,⟨[94],[0]⟩,⟨[93,95],[]⟩,⟨[96],[]⟩,⟨[16],[0,1,2,3,4]⟩,⟨[98],[0,1,2,3,4]⟩,⟨[97,99],[]⟩,⟨[100],[]⟩,⟨[4],[0,1,2,3,4,5,6,7,8]⟩,⟨[102],[0,1,2,3,4,5,6,7,8]⟩,⟨[103],[0,1,2,3,4,5,6,7,8]⟩,⟨[101],[9,10,11]⟩,⟨[104],[]⟩]⟩),(19,⟨[],[⟨[19],[]⟩,⟨[25],[0]⟩,⟨[22],[0,1]⟩,⟨[134,135],[0]⟩,⟨[22],[0,1,2,3]⟩,⟨[136,137],[0]⟩,⟨[22],[0,1,2,3,4,5]⟩,⟨[138,139],[0]⟩,⟨[133,140],[]⟩,⟨[141],[]⟩,⟨[132],[]⟩,⟨[132],[10]⟩,⟨[142],[11]⟩,⟨[143],[]⟩]⟩)]⟩
def ft5:FT:=⟨[0,1,2,3,4,5,6,7,8,9,10,14,19,24,42,56,58,66,76],[]⟩
def ft8:FT:=⟨[0,1,2,3,4,5,6,7,8,9,10,11,12,13,14,15,16,17,18,19,20,21,22,23,24,25,26,27,29],[(14,⟨[165,194,203],[⟨[2],[]⟩,⟨[104],[]⟩,⟨[105],[]⟩,⟨[4,106],[]⟩,⟨[106,107],[]⟩,⟨[106,108],[]⟩,⟨[109],[]⟩,⟨[6,110],[]⟩,⟨[110,111],[]⟩,⟨[110,112],[]⟩,⟨[113],[]⟩,⟨[8,114],[]⟩,⟨[114,115],[]⟩,⟨[114,116],[]⟩,⟨[117],[]⟩,⟨[11,118],[]⟩,⟨[118,119],[]⟩,⟨[118,120],[]⟩,⟨[121],[]⟩,⟨[14,122],[]⟩,⟨[122,123],[]⟩,⟨[122,124],[]⟩,⟨[125],[]⟩,⟨[16,126],[]⟩,⟨[126,127],[]⟩,⟨[126,128],[]⟩,⟨[129],[]⟩,⟨[18,130],[]⟩,⟨[130,131],[]⟩,⟨[130,132],[]⟩,⟨[133],[]⟩,⟨[20,134],[]⟩,⟨[134,135],[]⟩,⟨[134,136],[]⟩,⟨[137],[]⟩,⟨[23,138],[]⟩,⟨[138,139],[]⟩,⟨[138,140],[]⟩,⟨[141],[]⟩,⟨[25,142],[]⟩,⟨[142,143],[]⟩,⟨[142,144],[]⟩,⟨[145],[]⟩,⟨[27,146],[]⟩,⟨[146,147],[]⟩,⟨[146,148],[]⟩,⟨[149],[]⟩,⟨[29,150],[]⟩,⟨[150,151],[]⟩,⟨[150,152],[]⟩,⟨[153],[]⟩,⟨[1,154],[]⟩,⟨[154,155],[]⟩,⟨[156],[]⟩,⟨[3,157],[]⟩,⟨[157,158],[]⟩,⟨[157,159],[]⟩,⟨[160],[]⟩,⟨[5,161],[]⟩,⟨[161],[58]⟩,⟨[161],[58]⟩,⟨[161,163,164],[58]⟩,⟨[161,162,165],[]⟩,⟨[161,166],[]⟩,⟨[167],[]⟩,⟨[7,168],[]⟩,⟨[168],[65]⟩,⟨[168,169,170],[]⟩,⟨[168,171],[]⟩,⟨[172],[]⟩,⟨[9,173],[]⟩,⟨[173],[70]⟩,⟨[173,174,175],[]⟩,⟨[173,176],[]⟩,⟨[177],[]⟩,⟨[10,178],[]⟩,⟨[178,179],[]⟩,⟨[178,180],[]⟩,⟨[181],[]⟩,⟨[12,182],[]⟩,⟨[182],[79]⟩,⟨[182,183,184],[]⟩,⟨[182,185],[]⟩,⟨[186],[]⟩,⟨[13,187],[]⟩,⟨[187,188],[]⟩,⟨[187,189],[]⟩,⟨[190],[]⟩,⟨[15,191],[]⟩,⟨[191],[88]⟩,⟨[191,193],[88]⟩,⟨[191,192,194],[]⟩,⟨[191,195],[]⟩,⟨[196],[]⟩,⟨[17,197],[]⟩,⟨[197,198],[]⟩,⟨[197,199],[]⟩,⟨[200],[]⟩,⟨[19,201],[]⟩,⟨[201],[98]⟩,⟨[201,202,203],[]⟩,⟨[201,204],[]⟩,⟨[205],[]⟩,⟨[21,206],[]⟩,⟨[206,207],[]⟩,⟨[206,208],[]⟩,⟨[206,209],[]⟩,⟨[210],[]⟩,⟨[22,211],[]⟩,⟨[211,212],[]⟩,⟨[211,213],[]⟩,⟨[211,214],[]⟩,⟨[215],[]⟩,⟨[24,216],[]⟩,⟨[216],[113]⟩,⟨[216,217,218],[]⟩,⟨[216,219],[]⟩,⟨[220],[]⟩,⟨[26,221],[]⟩,⟨[221],[118]⟩,⟨[221,222,223],[]⟩,⟨[221,224],[]⟩,⟨[225],[]⟩]⟩)]⟩
def ft9:FT:=⟨[0,1,2,3,6,7,8,9,10,11,12,13,14,15,16,17,18,19,20,21,22,23,24,33,67,104,123,124,145],[(9,⟨[],[⟨[14],[]⟩,⟨[48],[]⟩,⟨[1],[0,1]⟩,⟨[13],[0,1,2]⟩,⟨[51],[0,1,2]⟩,⟨[50,52],[0,1]⟩,⟨[49,53],[]⟩,⟨[54],[]⟩]⟩),(29,⟨[],[⟨[14],[]⟩,⟨[146],[]⟩,⟨[1],[0,1]⟩,⟨[13],[0,1,2]⟩,⟨[149],[0,1,2]⟩,⟨[20],[0,1,2,3,4]⟩,⟨[150,151],[0,1,2]⟩,⟨[152],[0,1,2]⟩,⟨[148,153],[0,1]⟩,⟨[147,154],[]⟩,⟨[155],[]⟩]⟩)]⟩
def Zx:FT:=⟨[0,1,2,3,4,5,6,21],[(4,⟨[],[⟨[6],[]⟩,⟨[3],[0]⟩,⟨[24],[0]⟩,⟨[25],[0]⟩,⟨[2],[0,1,2,3]⟩,⟨[27],[0,1,2,3]⟩,⟨[6],[0,1,2,3,4,5]⟩,⟨[28,29],[0,1,2,3]⟩,⟨[30],[0,1,2,3]⟩,⟨[31],[0,1,2,3]⟩,⟨[32],[0,1,2,3]⟩,⟨[26,33],[0]⟩,⟨[23,34],[]⟩,⟨[4,35],[]⟩,⟨[],[]⟩]⟩)]⟩
def Vg:FT:=⟨[0,1,2,3,4,5,6,7,8,9,18,22],[(6,⟨[8],[⟨[6],[]⟩,⟨[6],[0]⟩,⟨[26],[0]⟩,⟨[27],[0]⟩,⟨[28],[0]⟩,⟨[3],[0,1,2,3,4]⟩,⟨[30],[0,1,2,3,4]⟩,⟨[29,31],[0]⟩,⟨[32],[0]⟩,⟨[3],[0,1,2,3,4,5,6,7,8]⟩,⟨[34],[0,1,2,3,4,5,6,7,8]⟩,⟨[33,35],[0]⟩,⟨[36],[0]⟩,⟨[],[0,1,2,3,4,5,6,7,8,9,10,11,12]⟩,⟨[25,37,38],[]⟩,⟨[6],[0,1,2,3,4,5,6,7,8,9,10,11,12,13,14]⟩,⟨[3],[0,1,2,3,4,5,6,7,8,9,10,11,12,13,14,15]⟩,⟨[40,41],[]⟩,⟨[42],[]⟩,⟨[],[0,1,2,3,4,5,6,7,8,9,10,11,12,13,14,15,16,17,18]⟩,⟨[8,39],[18]⟩,⟨[43],[]⟩]⟩)]⟩
def Zy:FT:=⟨[0,1,2,3,4,5,6,7,8,9,10,19,30,35,45,62,67,72,83],[(12,⟨[],[⟨[9],[]⟩,⟨[47],[]⟩,⟨[48],[]⟩,⟨[1,49],[]⟩,⟨[49,50],[]⟩,⟨[9,49],[3,4]⟩,⟨[49,51,52],[]⟩,⟨[49,53],[]⟩,⟨[1,49],[3,4,5,6,7]⟩,⟨[49,55],[3,4,5,6,7]⟩,⟨[9,49],[3,4,5,6,7,8,9]⟩,⟨[49,57],[3,4,5,6,7,8,9]⟩,⟨[49,56,58],[3,4,5,6,7]⟩,⟨[49,59],[3,4,5,6,7]⟩,⟨[49,54,60],[]⟩,⟨[49,61],[]⟩]⟩)]⟩
def Zz:FT:=⟨[0,1,2,3,4,5,6,7,8,9,10,11,12,13,14,15,16,17,18,19,22,23,24,25,26,27,28,30],[(10,⟨[20],[⟨[1],[]⟩,⟨[],[0]⟩,⟨[86,87],[]⟩,⟨[88],[]⟩,⟨[85],[]⟩,⟨[85],[4]⟩,⟨[85],[4,5]⟩,⟨[],[0,1,2,3,4,5,6]⟩,⟨[20,89],[5,6]⟩,⟨[90],[6]⟩,⟨[91],[]⟩]⟩),(15,⟨[175,186,199,221],[⟨[3],[]⟩,⟨[119],[]⟩,⟨[120],[]⟩,⟨[6,121],[]⟩,⟨[121,122],[]⟩,⟨[121,123],[]⟩,⟨[124],[]⟩,⟨[8,125],[]⟩,⟨[125,126],[]⟩,⟨[125,127],[]⟩,⟨[128],[]⟩,⟨[10,129],[]⟩,⟨[129,130],[]⟩,⟨[129,131],[]⟩,⟨[132],[]⟩,⟨[12,133],[]⟩,⟨[133,134],[]⟩,⟨[133,135],[]⟩,⟨[136],[]⟩,⟨[14,137],[]⟩,⟨[137,138],[]⟩,⟨[137,139],[]⟩,⟨[140],[]⟩,⟨[16,141],[]⟩,⟨[141,142],[]⟩,⟨[141,143],[]⟩,⟨[144],[]⟩,⟨[19,145],[]⟩,⟨[145,146],[]⟩,⟨[145,147],[]⟩,⟨[148],[]⟩,⟨[24,149],[]⟩,⟨[149,150],[]⟩,⟨[149,151],[]⟩,⟨[152],[]⟩,⟨[26,153],[]⟩,⟨[153,154],[]⟩,⟨[153,155],[]⟩,⟨[156],[]⟩,⟨[28,157],[]⟩,⟨[157,158],[]⟩,⟨[157,159],[]⟩,⟨[160],[]⟩,⟨[22,161],[]⟩,⟨[161,162],[]⟩,⟨[161,163],[]⟩,⟨[164],[]⟩,⟨[30,165],[]⟩,⟨[165,166],[]⟩,⟨[165,167],[]⟩,⟨[168],[]⟩,⟨[2,169],[]⟩,⟨[169],[51]⟩,⟨[169],[51]⟩,⟨[169],[51]⟩,⟨[169],[51]⟩,⟨[169,171,172,173,174],[51]⟩,⟨[169,170,175],[]⟩,⟨[169,176],[]⟩,⟨[177],[]⟩,⟨[4,178],[]⟩,⟨[178],[60]⟩,⟨[178,179,180],[]⟩,⟨[178,181],[]⟩,⟨[182],[]⟩,⟨[5,183],[]⟩,⟨[183],[65]⟩,⟨[183,185],[65]⟩,⟨[183,184,186],[]⟩,⟨[183,187],[]⟩,⟨[188],[]⟩,⟨[7,189],[]⟩,⟨[189,190],[]⟩,⟨[189,191],[]⟩,⟨[192],[]⟩,⟨[9,193],[]⟩,⟨[193,194],[]⟩,⟨[193,195],[]⟩,⟨[196],[]⟩,⟨[11,197],[]⟩,⟨[197],[79]⟩,⟨[197,198,199],[]⟩,⟨[197,200],[]⟩,⟨[201],[]⟩,⟨[13,202],[]⟩,⟨[202,203],[]⟩,⟨[202,204],[]⟩,⟨[205],[]⟩,⟨[15,206],[]⟩,⟨[206,207],[]⟩,⟨[206,208],[]⟩,⟨[209],[]⟩,⟨[17,210],[]⟩,⟨[210],[92]⟩,⟨[210,211,212],[]⟩,⟨[210,213],[]⟩,⟨[214],[]⟩,⟨[18,215],[]⟩,⟨[215,216],[]⟩,⟨[215,217],[]⟩,⟨[218],[]⟩,⟨[23,219],[]⟩,⟨[219],[101]⟩,⟨[219,220,221],[]⟩,⟨[219,222],[]⟩,⟨[223],[]⟩,⟨[25,224],[]⟩,⟨[224,225],[]⟩,⟨[224,226],[]⟩,⟨[227],[]⟩,⟨[27,228],[]⟩,⟨[228,229],[]⟩,⟨[228,230],[]⟩,⟨[228,231],[]⟩,⟨[232],[]⟩,⟨[27,233],[]⟩,⟨[233,234],[]⟩,⟨[233,235],[]⟩,⟨[233,236],[]⟩,⟨[233,237],[]⟩,⟨[238],[]⟩]⟩)]⟩
def ZA:FT:=⟨[0,1,2,4,5,6,18],[(1,⟨[5],[⟨[2],[]⟩,⟨[7],[]⟩,⟨[8],[]⟩,⟨[1],[0,1,2]⟩,⟨[10],[0,1,2]⟩,⟨[9,11],[]⟩,⟨[12],[]⟩,⟨[],[0,1,2,3,4,5,6]⟩,⟨[5,13],[]⟩]⟩),(5,⟨[31,32],[⟨[5],[]⟩,⟨[21],[]⟩,⟨[2],[0,1]⟩,⟨[23],[0,1]⟩,⟨[24],[0,1]⟩,⟨[1],[0,1,2,3,4]⟩,⟨[6],[0,1,2,3,4,5]⟩,⟨[27],[0,1,2,3,4,5]⟩,⟨[26,28],[0,1,2,3,4]⟩,⟨[25,29],[0,1]⟩,⟨[30],[0,1]⟩,⟨[22,31],[]⟩,⟨[5],[]⟩,⟨[32,33],[]⟩]⟩)]⟩
def ZB:FT:=⟨[0,1,2,3,4,6,7,8,9,10,21],[(7,⟨[43,44],[⟨[8],[]⟩,⟨[10],[0]⟩,⟨[7],[0,1]⟩,⟨[10],[0,1,2]⟩,⟨[32,33],[0,1]⟩,⟨[34],[0,1]⟩,⟨[2],[0,1,2,3,4,5]⟩,⟨[9],[0,1,2,3,4,5,6]⟩,⟨[36,37],[0,1,2,3,4,5]⟩,⟨[38],[0,1,2,3,4,5]⟩,⟨[39],[0,1,2,3,4,5]⟩,⟨[35,40],[0,1]⟩,⟨[31,41],[0]⟩,⟨[42],[0]⟩,⟨[30,43],[]⟩,⟨[44],[]⟩]⟩)]⟩
def ZC:FT:=⟨[0,1,2,3,4,5,8,9,10,17,21,30,31,36,41,42,44,46],[]⟩
def ZD:FT:=⟨[0,1,2,3,5,6,7,8,9,10,11,17,31],[(9,⟨[],[⟨[8],[]⟩,⟨[5],[0]⟩,⟨[42],[0]⟩,⟨[9],[0,1,2]⟩,⟨[43,44],[0]⟩,⟨[45],[0]⟩,⟨[11],[0,1,2,3,4,5]⟩,⟨[10],[0,1,2,3,4,5,6]⟩,⟨[47,48],[0,1,2,3,4,5]⟩,⟨[3],[0,1,2,3,4,5,6,7,8]⟩,⟨[50],[0,1,2,3,4,5,6,7,8]⟩,⟨[49,51],[0,1,2,3,4,5]⟩,⟨[46,52],[0]⟩,⟨[53],[0]⟩,⟨[41,54],[]⟩,⟨[3],[0,1,2,3,4,5,6,7,8,9,10,11,12,13,14]⟩,⟨[56],[0,1,2,3,4,5,6,7,8,9,10,11,12,13,14]⟩,⟨[55,57],[]⟩,⟨[58],[]⟩]⟩)]⟩
def ZE:FT:=⟨[0,1,2,6],[]⟩
def ZF:FT:=⟨[0,1,4,7,11],[]⟩
def ZG:FT:=⟨[0,1,2,6,7,8,12,34,45],[(7,⟨[],[⟨[0],[]⟩,⟨[8],[0]⟩,⟨[35,36],[]⟩,⟨[37],[]⟩,⟨[38],[]⟩,⟨[0],[0,1,2,3,4]⟩,⟨[8],[0,1,2,3,4,5]⟩,⟨[40,41],[0,1,2,3,4]⟩,⟨[42],[0,1,2,3,4]⟩,⟨[43],[0,1,2,3,4]⟩,⟨[39,44],[]⟩]⟩)]⟩
def ZH:FT:=⟨[0,1,2,3,7,11,22,33,43],[]⟩
def ZI:FT:=⟨[0,1,4,5,10,14,25],[(6,⟨[],[⟨[0],[]⟩,⟨[5],[0]⟩,⟨[17,18],[]⟩,⟨[19],[]⟩,⟨[1],[0,1,2,3]⟩,⟨[5],[0,1,2,3,4]⟩,⟨[21,22],[0,1,2,3]⟩,⟨[23],[0,1,2,3]⟩,⟨[20,24],[]⟩]⟩)]⟩
def ZJ:FT:=⟨[0,1,2,3,6,8,16],[]⟩
def Sn:FT:=⟨[0],[]⟩
def ZK:FT:=⟨[0,1],[(2,⟨[],[⟨[1],[]⟩,⟨[3],[]⟩,⟨[1],[0,1]⟩,⟨[5],[0,1]⟩,⟨[],[0,1,2,3]⟩,⟨[],[0,1,2,3]⟩,⟨[4],[2,3]⟩,⟨[9],[2,3]⟩,⟨[7,10],[2,3]⟩,⟨[6],[]⟩,⟨[11],[]⟩,⟨[8,12],[]⟩]⟩)]⟩
def ZL:FT:=⟨[0,1,2,4,5,6,8,9,11,12,19,23,40,46,47,48,49,54,59,60,61],[]⟩
def ZM:FT:=⟨[0,1,4],[]⟩
def V0:FT:=⟨[0,1,2,3,4,5,6,7,8,9,19,23,30,34,38],[]⟩
def V1:FT:=⟨[0,1,2,3,4,5,6,7,8,9,10,11,12,13,14,15,16,25,36,40,43,44,45,46,51,52,53,54,76,96],[]⟩
def ZN:FT:=⟨[0,1,2,3,6,7,8,16,24],[]⟩
def ZO:FT:=⟨[0,1,2,3,6,7,9,10,11,13,21,28,29,34,41,42,51],[]⟩
def ZP:FT:=⟨[0,1,2,3,4,5,6,8,10,11,12,13,14,15,16,17,25,29,30,31,32,36,37,38,39,49,63,82,85,94],[]⟩
def ZQ:FT:=⟨[0,1,2,3,6,14],[]⟩
def V2:FT:=⟨[0,2,3,4,5,6,7,8,9,10,11,14,17,40],[]⟩
def ZR:FT:=⟨[0],[]⟩
def ZS:FT:=⟨[0,1,4,5,10,14,25],[(6,⟨[],[⟨[0],[]⟩,⟨[5],[0]⟩,⟨[17,18],[]⟩,⟨[19],[]⟩,⟨[1],[0,1,2,3]⟩,⟨[5],[0,1,2,3,4]⟩,⟨[21,22],[0,1,2,3]⟩,⟨[23],[0,1,2,3]⟩,⟨[20,24],[]⟩]⟩)]⟩
def ZT:FT:=⟨[0,1,4],[]⟩
def ZU:FT:=⟨[0,1,4,5,10,14,25],[(6,⟨[],[⟨[0],[]⟩,⟨[5],[0]⟩,⟨[17,18],[]⟩,⟨[19],[]⟩,⟨[1],[0,1,2,3]⟩,⟨[5],[0,1,2,3,4]⟩,⟨[21,22],[0,1,2,3]⟩,⟨[23],[0,1,2,3]⟩,⟨[20,24],[]⟩]⟩)]⟩
def ZV:FT:=⟨[0,1,2,3,4,5,6,7,8,22,27,67,72,85],[(6,⟨[6,7],[⟨[2],[]⟩,⟨[30],[]⟩,⟨[5],[0,1]⟩,⟨[31,32],[]⟩,⟨[33],[]⟩,⟨[3],[0,1,2,3,4]⟩,⟨[35],[0,1,2,3,4]⟩,⟨[5],[0,1,2,3,4,5,6]⟩,⟨[36,37],[0,1,2,3,4]⟩,⟨[38],[0,1,2,3,4]⟩,⟨[],[0,1,2,3,4,5,6,7,8,9]⟩,⟨[],[0,1,2,3,4,5,6,7,8,9,10]⟩,⟨[6,34],[5,6,7,8,9]⟩,⟨[7,39],[]⟩]⟩),(12,⟨[],[⟨[6],[]⟩,⟨[75],[]⟩,⟨[8],[0,1]⟩,⟨[76,77],[]⟩,⟨[78],[]⟩,⟨[7],[0,1,2,3,4]⟩,⟨[80],[0,1,2,3,4]⟩,⟨[8],[0,1,2,3,4,5,6]⟩,⟨[81,82],[0,1,2,3,4]⟩,⟨[83],[0,1,2,3,4]⟩,⟨[79,84],[]⟩]⟩)]⟩
def ZW:FT:=⟨[0,1,2,4],[(1,⟨[],[⟨[2],[]⟩,⟨[5],[]⟩,⟨[1],[0,1]⟩,⟨[2],[0,1,2]⟩,⟨[8],[0,1,2]⟩,⟨[2],[0,1,2,3,4]⟩,⟨[10],[0,1,2,3,4]⟩,⟨[9,11],[0,1,2]⟩,⟨[12],[0,1,2]⟩,⟨[7,13],[0,1]⟩,⟨[6,14],[]⟩,⟨[15],[]⟩]⟩)]⟩
def ZX:FT:=⟨[0,1,4,7],[]⟩
def ZY:FT:=⟨[0],[]⟩
def ZZ:FT:=⟨[0,1,2,4,5,10,29],[]⟩
def Z0:FT:=⟨[0,1,2,4,5,8,10,18,20,21,22,23,48],[(7,⟨[32,46],[⟨[2],[]⟩,⟨[26],[]⟩,⟨[27],[]⟩,⟨[28],[]⟩,⟨[10],[0,1,2,3]⟩,⟨[30],[0,1,2,3]⟩,⟨[31],[0,1,2,3]⟩,⟨[29,32],[]⟩,⟨[33],[]⟩,⟨[2,34],[]⟩,⟨[34,35],[]⟩,⟨[10,34],[9,10]⟩,⟨[34,37],[9,10]⟩,⟨[34,36,38],[]⟩,⟨[34,39],[]⟩,⟨[34,40],[]⟩,⟨[34,41],[]⟩,⟨[34,42],[]⟩,⟨[10,34],[9,10,11,12,13,14,15,16,17]⟩,⟨[34,44],[9,10,11,12,13,14,15,16,17]⟩,⟨[34,45],[9,10,11,12,13,14,15,16,17]⟩,⟨[34,43,46],[]⟩,⟨[34,47],[]⟩]⟩)]⟩
def Z1:FT:=⟨[0,2,4,12],[]⟩
def Z2:FT:=⟨[0,1,2,4,5,6,7,9],[(3,⟨[],[⟨[9],[]⟩,⟨[5],[0]⟩,⟨[23,24],[]⟩,⟨[25],[]⟩,⟨[7],[0,1,2,3]⟩,⟨[4],[0,1,2,3,4]⟩,⟨[27,28],[0,1,2,3]⟩,⟨[26,29],[]⟩,⟨[6,30],[]⟩]⟩)]⟩
def Z3:FT:=⟨[0],[]⟩
def Z4:FT:=⟨[0,1,3,4],[(1,⟨[],[⟨[0],[]⟩,⟨[5],[]⟩,⟨[6],[]⟩,⟨[7],[]⟩,⟨[8],[]⟩,⟨[3],[0,1,2,3,4]⟩,⟨[10],[0,1,2,3,4]⟩,⟨[9,11],[]⟩,⟨[12],[]⟩,⟨[13],[]⟩,⟨[3],[0,1,2,3,4,5,6,7,8,9]⟩,⟨[15],[0,1,2,3,4,5,6,7,8,9]⟩,⟨[14,16],[]⟩,⟨[17],[]⟩,⟨[4,18],[]⟩]⟩)]⟩
def Z5:FT:=⟨[0,1,2,3,4,5,6,7,8,24,28,33,66,68,85,91],[(8,⟨[],[⟨[1],[]⟩,⟨[36],[]⟩,⟨[5],[0,1]⟩,⟨[37,38],[]⟩,⟨[39],[]⟩,⟨[1],[0,1,2,3,4]⟩,⟨[41],[0,1,2,3,4]⟩,⟨[42],[0,1,2,3,4]⟩,⟨[40,43],[]⟩,⟨[44],[]⟩]⟩),(9,⟨[],[⟨[6],[]⟩,⟨[45],[]⟩,⟨[46],[]⟩,⟨[5,47],[]⟩,⟨[47,48],[]⟩,⟨[47,49],[]⟩,⟨[50],[]⟩,⟨[1,51],[]⟩,⟨[51,52],[]⟩,⟨[5,51],[7,8]⟩,⟨[51,53,54],[]⟩,⟨[51,55],[]⟩,⟨[51,56],[]⟩,⟨[1,51],[7,8,9,10,11,12]⟩,⟨[51,58],[7,8,9,10,11,12]⟩,⟨[5,51],[7,8,9,10,11,12,13,14]⟩,⟨[51,60],[7,8,9,10,11,12,13,14]⟩,⟨[51,59,61],[7,8,9,10,11,12]⟩,⟨[51,62],[7,8,9,10,11,12]⟩,⟨[51,63],[7,8,9,10,11,12]⟩,⟨[51,57,64],[]⟩,⟨[51,65],[]⟩]⟩),(13,⟨[],[⟨[1],[]⟩,⟨[71],[]⟩,⟨[1],[0,1]⟩,⟨[73],[0,1]⟩,⟨[74],[0,1]⟩,⟨[72,75],[]⟩,⟨[1],[0,1,2,3,4,5]⟩,⟨[77],[0,1,2,3,4,5]⟩,⟨[78],[]⟩,⟨[76],[]⟩,⟨[79],[]⟩]⟩)]⟩
def Z6:FT:=⟨[0,1,2,6],[]⟩
def So:FT:=⟨[0,2],[]⟩
def Z7:FT:=⟨[0,1,4],[]⟩
def Z8:FT:=⟨[0,1,2,3,4,5,6,7,8,16,21,25,26,27,28,32,44],[]⟩
def Z9:FT:=⟨[0,1,4],[]⟩
def aaa:FT:=⟨[0,1,2,3,4,5,7,8,9,17,21,22,24,34,35,36,37,54,55,56,57,72],[(17,⟨[],[⟨[3],[]⟩,⟨[8],[0]⟩,⟨[3],[0,1]⟩,⟨[8],[0,1,2]⟩,⟨[63,64],[0,1]⟩,⟨[65],[0,1]⟩,⟨[9],[0,1,2,3,4,5]⟩,⟨[66,67],[0,1]⟩,⟨[61,62],[]⟩,⟨[68,69],[]⟩]⟩),(21,⟨[],[⟨[2],[]⟩,⟨[3],[0]⟩,⟨[2,74],[1]⟩,⟨[3,75],[]⟩,⟨[],[]⟩]⟩)]⟩
def aab:FT:=⟨[0,1,2,3,6,7,8,17],[]⟩
def aac:FT:=⟨[0,1,2,3,4,5,6,7,8,14,19],[(6,⟨[],[⟨[3],[]⟩,⟨[5],[0]⟩,⟨[21,22],[]⟩,⟨[4],[0,1,2]⟩,⟨[24],[0,1,2]⟩,⟨[23,25],[]⟩,⟨[26],[]⟩,⟨[],[]⟩]⟩)]⟩
def aad:FT:=⟨[0],[]⟩
def aae:FT:=⟨[0],[]⟩
def aaf:FT:=⟨[0,1,2,3,4,5,6,7,8,9,15,26,30],[(10,⟨[],[⟨[8],[]⟩,⟨[34],[]⟩,⟨[8],[0,1]⟩,⟨[36],[0,1]⟩,⟨[4,35],[2,3]⟩,⟨[37],[]⟩,⟨[],[]⟩]⟩)]⟩
def aag:FT:=⟨[0,1,2,4,5,6,7,8,13,15,16,17,18,23,24,30],[]⟩
def aah:FT:=⟨[0,1,2,3,4,5,6,7,8,9,16,27,28,35],[]⟩
def aai:FT:=⟨[0],[]⟩
def aaj:FT:=⟨[0,1,2,3,4,5,6,7,15,21,22,23],[]⟩
def aak:FT:=⟨[0,2,3,4,5,9,10,11,12,13,17,23,30,37,42],[]⟩
def aal:FT:=⟨[0,1,4],[]⟩
def aam:FT:=⟨[0,1,2,3,4],[]⟩
def aan:FT:=⟨[0,1,2,4],[(1,⟨[],[⟨[2],[]⟩,⟨[5],[]⟩,⟨[1],[0,1]⟩,⟨[2],[0,1,2]⟩,⟨[8],[0,1,2]⟩,⟨[2],[0,1,2,3,4]⟩,⟨[10],[0,1,2,3,4]⟩,⟨[9,11],[0,1,2]⟩,⟨[12],[0,1,2]⟩,⟨[7,13],[0,1]⟩,⟨[6,14],[]⟩,⟨[15],[]⟩]⟩)]⟩
def aao:FT:=⟨[0,1,4,7],[]⟩
def aap:FT:=⟨[0,1,2,3,4,5,6,7,8,9,18,25,27,28,29,30,34,43,53,55,56,57,58,69],[]⟩
def aaq:FT:=⟨[0,1,2,3,4,6],[]⟩
def aar:FT:=⟨[0,1,2,3,5,8,9,10,11,15],[(9,⟨[],[⟨[1],[]⟩,⟨[27],[]⟩,⟨[28],[]⟩,⟨[1],[0,1,2]⟩,⟨[30],[0,1,2]⟩,⟨[3],[0,1,2,3,4]⟩,⟨[29,31,32],[]⟩,⟨[33],[]⟩]⟩)]⟩
def aas:FT:=⟨[0,1,2,4,5,10,26],[(4,⟨[],[⟨[1],[]⟩,⟨[2],[0]⟩,⟨[14],[0]⟩,⟨[5],[0,1,2]⟩,⟨[15,16],[0]⟩,⟨[17],[0]⟩,⟨[18],[0]⟩,⟨[2],[0,1,2,3,4,5,6]⟩,⟨[20],[0,1,2,3,4,5,6]⟩,⟨[5],[0,1,2,3,4,5,6,7,8]⟩,⟨[21,22],[0,1,2,3,4,5,6]⟩,⟨[23],[0,1,2,3,4,5,6]⟩,⟨[24],[0,1,2,3,4,5,6]⟩,⟨[13,19,25],[]⟩]⟩)]⟩
def aat:FT:=⟨[0,2,3,7,11,23,45],[]⟩
def aau:FT:=⟨[0,1,4,5,9,17],[]⟩
def aav:FT:=⟨[0,1,2,6],[]⟩
def U7:FT:=⟨[0,1,2,3,4,5,6,7,8,9,14,21,22,23,24,28,35,44,61,80,88,89,90,91,98],[]⟩
def Mq:FT:=⟨[0,1,2,3,4,6,7,8,9,10,11,12,13,14,15,16,18,19,20,21,22,29,30,31,32,45,46,47,48,57,85,87,88,99,100,116,125],[(16,⟨[80,81],[⟨[7],[]⟩,⟨[7],[0]⟩,⟨[59],[0]⟩,⟨[60],[0]⟩,⟨[61],[0]⟩,⟨[13],[0,1,2,3,4]⟩,⟨[15],[0,1,2,3,4,5]⟩,⟨[64],[0,1,2,3,4,5]⟩,⟨[63,65],[0,1,2,3,4]⟩,⟨[66],[0,1,2,3,4]⟩,⟨[12],[0,1,2,3,4,5,6,7,8,9]⟩,⟨[16],[0,1,2,3,4,5,6,7,8,9,10]⟩,⟨[69],[0,1,2,3,4,5,6,7,8,9,10]⟩,⟨[11],[0,1,2,3,4,5,6,7,8,9,10,11,12]⟩,⟨[71],[0,1,2,3,4,5,6,7,8,9,10,11,12]⟩,⟨[15],[0,1,2,3,4,5,6,7,8,9,10,11,12,13,14]⟩,⟨[73],[0,1,2,3,4,5,6,7,8,9,10,11,12,13,14]⟩,⟨[72,74],[0,1,2,3,4,5,6,7,8,9,10,11,12]⟩,⟨[75],[0,1,2,3,4,5,6,7,8,9,10,11,12]⟩,⟨[76],[0,1,2,3,4,5,6,7,8,9,10,11,12]⟩,⟨[70,77],[0,1,2,3,4,5,6,7,8,9,10]⟩,⟨[67,68,78],[0,1,2,3,4]⟩,⟨[79],[0,1,2,3,4]⟩,⟨[62,80],[0]⟩,⟨[58],[]⟩,⟨[82],[]⟩,⟨[81,83],[]⟩]⟩),(29,⟨[],[⟨[16],[]⟩,⟨[132],[]⟩,⟨[3],[0,1]⟩,⟨[134],[0,1]⟩,⟨[19],[0,1,2,3]⟩,⟨[136],[0,1,2,3]⟩,⟨[135,137],[0,1]⟩,⟨[138],[0,1]⟩,⟨[139],[0,1]⟩,⟨[19],[0,1,2,3,4,5,6,7,8]⟩,⟨[141],[0,1,2,3,4,5,6,7,8]⟩,⟨[140,142],[0,1]⟩,⟨[143],[0,1]⟩,⟨[144],[0,1]⟩,⟨[133,145],[]⟩,⟨[146],[]⟩]⟩),(30,⟨[22],[⟨[7],[]⟩,⟨[147],[]⟩,⟨[148],[]⟩,⟨[149],[]⟩,⟨[19],[0,1,2,3]⟩,⟨[151],[0,1,2,3]⟩,⟨[150,152],[]⟩,⟨[153],[]⟩,⟨[19],[0,1,2,3,4,5,6,7]⟩,⟨[155],[0,1,2,3,4,5,6,7]⟩,⟨[154,156],[]⟩,⟨[157],[]⟩,⟨[],[0,1,2,3,4,5,6,7,8,9,10,11]⟩,⟨[22,158],[]⟩]⟩),(31,⟨[173,174],[⟨[7],[]⟩,⟨[7],[0]⟩,⟨[160],[0]⟩,⟨[161],[0]⟩,⟨[162],[0]⟩,⟨[22],[0,1,2,3,4]⟩,⟨[12],[0,1,2,3,4,5]⟩,⟨[21],[0,1,2,3,4,5,6]⟩,⟨[164,165,166],[0,1,2,3,4]⟩,⟨[12],[0,1,2,3,4,5,6,7,8]⟩,⟨[22],[0,1,2,3,4,5,6,7,8,9]⟩,⟨[21],[0,1,2,3,4,5,6,7,8,9,10]⟩,⟨[170],[0,1,2,3,4,5,6,7,8,9,10]⟩,⟨[168,169,171],[0,1,2,3,4,5,6,7,8]⟩,⟨[167,172],[0,1,2,3,4]⟩,⟨[163,173],[0]⟩,⟨[159],[]⟩,⟨[175],[]⟩,⟨[174,176],[]⟩]⟩),(33,⟨[184,185],[⟨[7],[]⟩,⟨[7],[0]⟩,⟨[179],[0]⟩,⟨[180],[0]⟩,⟨[181],[0]⟩,⟨[13],[0,1,2,3,4]⟩,⟨[183],[0,1,2,3,4]⟩,⟨[182,184],[0]⟩,⟨[178],[]⟩,⟨[186],[]⟩,⟨[185,187],[]⟩]⟩)]⟩
def U8:FT:=⟨[0,1,3,4,5,6,7,9,10,11,12,13,15,23,24,25,29,30,31,32,43,60,70,75,76,77,78,92],[(20,⟨[],[⟨[6],[]⟩,⟨[15],[0]⟩,⟨[82],[0]⟩,⟨[81,83],[]⟩,⟨[15],[0,1,2,3]⟩,⟨[85],[0,1,2,3]⟩,⟨[84,86],[]⟩,⟨[6],[0,1,2,3,4,5,6]⟩,⟨[15],[0,1,2,3,4,5,6,7]⟩,⟨[89],[0,1,2,3,4,5,6,7]⟩,⟨[88,90],[0,1,2,3,4,5,6]⟩,⟨[87,91],[]⟩]⟩)]⟩
def U9:FT:=⟨[0,1,2,3,4,6],[]⟩
def Va:FT:=⟨[0,1,2,4,5,6,7,8],[(1,⟨[7],[⟨[0],[]⟩,⟨[0],[0]⟩,⟨[10],[0]⟩,⟨[11],[0]⟩,⟨[12],[0]⟩,⟨[5],[0,1,2,3,4]⟩,⟨[14],[0,1,2,3,4]⟩,⟨[13,15],[0]⟩,⟨[16],[0]⟩,⟨[5],[0,1,2,3,4,5,6,7,8]⟩,⟨[18],[0,1,2,3,4,5,6,7,8]⟩,⟨[17,19],[0]⟩,⟨[20],[0]⟩,⟨[0],[0,1,2,3,4,5,6,7,8,9,10,11,12]⟩,⟨[22],[0,1,2,3,4,5,6,7,8,9,10,11,12]⟩,⟨[23],[0,1,2,3,4,5,6,7,8,9,10,11,12]⟩,⟨[24],[0,1,2,3,4,5,6,7,8,9,10,11,12]⟩,⟨[4],[0,1,2,3,4,5,6,7,8,9,10,11,12,13,14,15,16]⟩,⟨[26],[0,1,2,3,4,5,6,7,8,9,10,11,12,13,14,15,16]⟩,⟨[25,27],[0,1,2,3,4,5,6,7,8,9,10,11,12]⟩,⟨[28],[0,1,2,3,4,5,6,7,8,9,10,11,12]⟩,⟨[4],[0,1,2,3,4,5,6,7,8,9,10,11,12,13,14,15,16,17,18,19,20]⟩,⟨[30],[0,1,2,3,4,5,6,7,8,9,10,11,12,13,14,15,16,17,18,19,20]⟩,⟨[29,31],[0,1,2,3,4,5,6,7,8,9,10,11,12]⟩,⟨[32],[0,1,2,3,4,5,6,7,8,9,10,11,12]⟩,⟨[9,21,33],[]⟩,⟨[],[0,1,2,3,4,5,6,7,8,9,10,11,12,13,14,15,16,17,18,19,20,21,22,23,24,25]⟩,⟨[7,34],[]⟩]⟩),(2,⟨[],[⟨[0],[]⟩,⟨[5],[0]⟩,⟨[35,36],[]⟩,⟨[37],[]⟩,⟨[0],[0,1,2,3]⟩,⟨[4],[0,1,2,3,4]⟩,⟨[39,40],[3]⟩,⟨[41],[3]⟩,⟨[38,42],[]⟩,⟨[43],[]⟩]⟩)]⟩
def Vb:FT:=⟨[0,1,2,4,5,11,15],[]⟩
def Vc:FT:=⟨[0,1,4,5,6,7,8,12,18,25],[]⟩
def Vd:FT:=⟨[0,1,3,5],[]⟩
def QQ:FT:=⟨[0,1,2,3,5,6,8,9,10,11,12,16,17,18,19,24,25,26,27,36,44,46],[]⟩
def Ve:FT:=⟨[0,1,2],[]⟩
def IG:FT:=⟨[0,2,4],[]⟩
def Vf:FT:=⟨[0,1,2,3,4,6,8,9,19,20,21,22,49,50,51,52],[]⟩
def Mr:FT:=⟨[0,1,2,5],[(2,⟨[],[⟨[],[]⟩,⟨[2],[0]⟩,⟨[7],[0]⟩,⟨[0,6],[1,2]⟩,⟨[1,8],[]⟩]⟩)]⟩
def Vh:FT:=⟨[0,1,4,5],[]⟩
def QR:FT:=⟨[0,3],[]⟩
def QS:FT:=⟨[0,2,3,4],[]⟩
def BH:FT:=⟨[0,1,4,5,6,7,8,12,29,30,31,32,74,76,87,94],[(8,⟨[51,52],[⟨[0],[]⟩,⟨[0],[0]⟩,⟨[46],[0]⟩,⟨[47],[0]⟩,⟨[48],[0]⟩,⟨[4],[0,1,2,3,4]⟩,⟨[50],[0,1,2,3,4]⟩,⟨[49,51],[0]⟩,⟨[45],[]⟩,⟨[53],[]⟩,⟨[52,54],[]⟩]⟩),(15,⟨[],[⟨[1],[]⟩,⟨[82],[]⟩,⟨[83],[]⟩,⟨[7],[0,1,2]⟩,⟨[85],[0,1,2]⟩,⟨[7],[]⟩,⟨[84,86],[]⟩]⟩),(21,⟨[],[⟨[1],[]⟩,⟨[100],[]⟩,⟨[101],[]⟩,⟨[1],[0,1,2]⟩,⟨[103],[0,1,2]⟩,⟨[104],[0,1,2]⟩,⟨[105],[0,1,2]⟩,⟨[7],[0,1,2,3,4,5,6]⟩,⟨[107],[0,1,2]⟩,⟨[7],[]⟩,⟨[102,108],[]⟩,⟨[7],[]⟩,⟨[106,109],[]⟩]⟩),(22,⟨[],[⟨[0],[]⟩,⟨[110],[]⟩,⟨[111],[]⟩,⟨[112],[]⟩,⟨[0],[0,1,2,3]⟩,⟨[114],[0,1,2,3]⟩,⟨[115],[0,1,2,3]⟩,⟨[116],[0,1,2,3]⟩,⟨[117],[0,1,2,3]⟩,⟨[118],[0,1,2,3]⟩,⟨[113,119],[]⟩,⟨[120],[]⟩]⟩),(23,⟨[127,128],[⟨[8],[]⟩,⟨[8],[0]⟩,⟨[122],[0]⟩,⟨[123],[0]⟩,⟨[124],[0]⟩,⟨[7],[0,1,2,3,4]⟩,⟨[126],[0,1,2,3,4]⟩,⟨[125,127],[0]⟩,⟨[121],[]⟩,⟨[129],[]⟩,⟨[128,130],[]⟩]⟩)]⟩
def Vi:FT:=⟨[0,1,2,3,6],[]⟩
def Vj:FT:=⟨[0,1,2,3,4,8,9,24],[]⟩
def Vk:FT:=⟨[0,1,2,3,4,5,14],[]⟩
def Vl:FT:=⟨[0,1,2,3,4,5,6,7,8,9,19,20,21,36],[]⟩
def Vm:FT:=⟨[0,1,2,4],[]⟩
def QT:FT:=⟨[0,1,2,3,4,5,6,12,13,15,16,17,18,30,39],[(1,⟨[],[⟨[1],[]⟩,⟨[7],[]⟩,⟨[8],[]⟩,⟨[1],[0,1,2]⟩,⟨[10],[0,1,2]⟩,⟨[9,11],[]⟩]⟩),(7,⟨[],[⟨[3],[]⟩,⟨[22],[]⟩,⟨[6],[0,1]⟩,⟨[24],[0,1]⟩,⟨[23,25],[]⟩,⟨[26],[]⟩,⟨[6],[0,1,2,3,4,5]⟩,⟨[28],[0,1,2,3,4,5]⟩,⟨[27,29],[]⟩]⟩)]⟩
def Vn:FT:=⟨[0,1,2,3,5,6,11,12,13,14,22],[]⟩
def Vo:FT:=⟨[0,1,2,3,4,5,6],[]⟩
def Vp:FT:=⟨[4],[]⟩
def Vq:FT:=⟨[0,1,3,4,5,6,7,8,17],[(5,⟨[],[⟨[4],[]⟩,⟨[5],[0]⟩,⟨[4,19],[1]⟩,⟨[5,20],[]⟩]⟩)]⟩
def Vr:FT:=⟨[0,1,4,9],[]⟩
def Vs:FT:=⟨[0,1,4,5,6,7,8,9,10,11,12,19,28,35],[]⟩
def Vt:FT:=⟨[0,1,2,4,12],[]⟩
def Vu:FT:=⟨[0,1,4,5,6,7,8,9,10,13,14,15,19,40,45,47,67,80,94,103],[(6,⟨[],[⟨[5],[]⟩,⟨[6],[0]⟩,⟨[21],[0]⟩,⟨[22],[0]⟩,⟨[20,23],[]⟩,⟨[24],[]⟩,⟨[20,23],[4,5]⟩,⟨[26],[4,5]⟩,⟨[20,25,27],[]⟩]⟩),(7,⟨[],[⟨[5],[]⟩,⟨[6],[0]⟩,⟨[29],[0]⟩,⟨[30],[0]⟩,⟨[28,31],[]⟩,⟨[32],[]⟩,⟨[28,31],[4,5]⟩,⟨[34],[4,5]⟩,⟨[28,33,35],[]⟩]⟩),(17,⟨[],[⟨[0],[]⟩,⟨[7],[0]⟩,⟨[58,59],[]⟩,⟨[60],[]⟩,⟨[0],[0,1,2,3]⟩,⟨[7],[0,1,2,3,4]⟩,⟨[63],[0,1,2,3,4]⟩,⟨[62,64],[0,1,2,3]⟩,⟨[65],[0,1,2,3]⟩,⟨[61,66],[]⟩]⟩),(18,⟨[],[⟨[9],[]⟩,⟨[68],[]⟩,⟨[69],[]⟩,⟨[70],[]⟩,⟨[9,71],[]⟩,⟨[71,72],[]⟩,⟨[9,71],[4,5]⟩,⟨[71,74],[4,5]⟩,⟨[1,71],[4,5,6,7]⟩,⟨[71,75,76],[4,5]⟩,⟨[71,77],[4,5]⟩,⟨[71,73,78],[]⟩,⟨[71,79],[]⟩]⟩),(20,⟨[],[⟨[10],[]⟩,⟨[87],[]⟩,⟨[10],[0,1]⟩,⟨[89],[0,1]⟩,⟨[1],[0,1,2,3]⟩,⟨[90,91],[0,1]⟩,⟨[92],[0,1]⟩,⟨[88,93],[]⟩]⟩),(21,⟨[],[⟨[8],[]⟩,⟨[10],[0]⟩,⟨[95,96],[]⟩,⟨[97],[]⟩,⟨[95,96],[2,3]⟩,⟨[99],[2,3]⟩,⟨[95,98,100],[]⟩]⟩)]⟩
def Vv:FT:=⟨[0,1,2,3,4,10],[]⟩
def QU:FT:=⟨[0,1,3,4,5,6,7,8,17],[(5,⟨[],[⟨[4],[]⟩,⟨[5],[0]⟩,⟨[4,19],[1]⟩,⟨[5,20],[]⟩]⟩)]⟩
def QV:FT:=⟨[0,1,2,3,4,5,6],[]⟩
def QW:FT:=⟨[0],[]⟩
def Vw:FT:=⟨[0,1,2,3,4],[]⟩
def Vx:FT:=⟨[4],[]⟩
def Vy:FT:=⟨[0,2,3,5,7,8,9,11,18],[]⟩
def Vz:FT:=⟨[0,1,4],[]⟩
def VA:FT:=⟨[0,1,2,3],[]⟩
def VB:FT:=⟨[0,1,4],[]⟩
def VC:FT:=⟨[0,1,2],[]⟩
def VD:FT:=⟨[0,1,2],[]⟩
def VE:FT:=⟨[0,1,2,3,4,5,6,7,8,21,27,28,29,30,34,45,61,83],[]⟩
def VF:FT:=⟨[0,1,4],[]⟩
def VG:FT:=⟨[0,1,2,4],[]⟩
def VH:FT:=⟨[0,1,2,5,6],[]⟩
def VI:FT:=⟨[0,1,4],[]⟩
def VJ:FT:=⟨[0,1,2,3],[]⟩
def VK:FT:=⟨[0,1,2,3,5,7,11,13,14,16,17,27,28,38,39,51],[]⟩
def QX:FT:=⟨[0,1,2,3,4,5],[(2,⟨[32,33],[⟨[2],[]⟩,⟨[2],[0]⟩,⟨[14],[0]⟩,⟨[15],[0]⟩,⟨[16],[0]⟩,⟨[],[0,1,2,3,4]⟩,⟨[4],[0,1,2,3,4,5]⟩,⟨[5],[0,1,2,3,4,5,6]⟩,⟨[20],[0,1,2,3,4,5,6]⟩,⟨[3],[0,1,2,3,4,5,6,7,8]⟩,⟨[21,22],[0,1,2,3,4,5,6]⟩,⟨[18,19,23],[0,1,2,3,4]⟩,⟨[4],[0,1,2,3,4,5,6,7,8,9,10,11]⟩,⟨[],[0,1,2,3,4,6,7,8,9,10,11,12]⟩,⟨[3],[0,1,2,3,4,5,6,7,8,9,10,11,12,13]⟩,⟨[5],[0,1,2,3,4,5,6,7,8,9,10,11,12,13,14]⟩,⟨[28],[0,1,2,3,4,5,6,7,8,9,10,11,12,13,14]⟩,⟨[27,29],[0,1,2,3,4,5,6,7,8,9,10,11,12,13]⟩,⟨[25,26,30],[0,1,2,3,4,6,7,8,9,10,11]⟩,⟨[24,31],[0,1,2,3,4]⟩,⟨[17,32],[0]⟩,⟨[13],[]⟩,⟨[34],[]⟩,⟨[33,35],[]⟩]⟩)]⟩
def VL:FT:=⟨[0,1,4],[]⟩
def VM:FT:=⟨[0,1,2,4],[]⟩
def QY:FT:=⟨[0,1,2,3,4,5,9,10,11,16],[]⟩
def IH:FT:=⟨[0,1,2,3,4,5,8,9,11,21,37],[(6,⟨[29,30],[⟨[3],[]⟩,⟨[4],[0]⟩,⟨[9],[0,1]⟩,⟨[25,26],[0]⟩,⟨[27],[0]⟩,⟨[28],[0]⟩,⟨[24,29],[]⟩,⟨[3,30],[]⟩]⟩)]⟩
def II:FT:=⟨[0,1,3,4,5,6,7,8,9,10,15,17,19,20,24,25],[]⟩
def IJ:FT:=⟨[0,1,4],[]⟩
def IK:FT:=⟨[0,1,4,5],[]⟩
def VN:FT:=⟨[0,1,4,5,9],[]⟩
def VO:FT:=⟨[0,1,4,5,7,8,9,16],[]⟩
def VP:FT:=⟨[0,1,2,3,8],[(1,⟨[],[⟨[1],[]⟩,⟨[2],[0]⟩,⟨[3],[0,1]⟩,⟨[0],[0,1,2]⟩,⟨[12],[0,1,2]⟩,⟨[13],[0,1,2]⟩,⟨[14],[0,1,2]⟩,⟨[15],[0,1,2]⟩,⟨[11,16],[0,1]⟩,⟨[10,17],[0]⟩,⟨[18],[0]⟩,⟨[9,19],[]⟩,⟨[0],[0,1,2,3,4,5,6,7,8,9,10,11]⟩,⟨[21],[0,1,2,3,4,5,6,7,8,9,10,11]⟩,⟨[22],[0,1,2,3,4,5,6,7,8,9,10,11]⟩,⟨[23],[0,1,2,3,4,5,6,7,8,9,10,11]⟩,⟨[24],[0,1,2,3,4,5,6,7,8,9,10,11]⟩,⟨[20,25],[]⟩,⟨[26],[]⟩]⟩)]⟩
def QZ:FT:=⟨[0,1,2,3,4,5,6,21,30],[]⟩
def VQ:FT:=⟨[0,1,2,3,4,5,6,7,8,9,13,14,15,16,17,18,27,45,67,79,123],[(7,⟨[16],[⟨[9],[]⟩,⟨[48],[]⟩,⟨[9],[0,1]⟩,⟨[50],[0,1]⟩,⟨[51],[0,1]⟩,⟨[49,52],[]⟩,⟨[],[0,1,2,3,4,5]⟩,⟨[16,53],[]⟩]⟩),(13,⟨[],[⟨[6],[]⟩,⟨[18],[0]⟩,⟨[4],[0,1]⟩,⟨[17],[0,1,2]⟩,⟨[72],[0,1,3]⟩,⟨[74],[0,1,3]⟩,⟨[73,75],[0,1]⟩,⟨[76],[0,1]⟩,⟨[70,71,77],[]⟩,⟨[78],[]⟩]⟩),(14,⟨[88,89],[⟨[16],[]⟩,⟨[80],[]⟩,⟨[4],[0,1]⟩,⟨[17],[0,1,2]⟩,⟨[82],[0,1,3]⟩,⟨[84],[0,1,3]⟩,⟨[83,85],[0,1]⟩,⟨[86],[0,1]⟩,⟨[87],[0,1]⟩,⟨[81,88],[]⟩,⟨[16],[]⟩,⟨[89,90],[]⟩]⟩)]⟩
def Q0:FT:=⟨[0,2,4],[]⟩
def VR:FT:=⟨[0,1,4,5,6,11,12,13,16,19],[]⟩
def Q1:FT:=⟨[0,1,4,5,6,7,9,10,14,15],[]⟩
def Q2:FT:=⟨[0,1,2,3,4,5,6,8,9,18,25],[]⟩
def VS:FT:=⟨[0,1,4,5,7,8,9,16],[]⟩
def VT:FT:=⟨[0,1,4,5,7,8,9,16],[]⟩
def VU:FT:=⟨[0,1,4,5,7,8,9,16],[]⟩
def VV:FT:=⟨[0,1,4,5,7,8,9,16],[]⟩
def VW:FT:=⟨[0,1,4],[]⟩
def VX:FT:=⟨[0,2],[]⟩
def Q3:FT:=⟨[0,1,2],[]⟩
def Q4:FT:=⟨[0,1,2],[]⟩
def Q5:FT:=⟨[0,2],[]⟩
def VY:FT:=⟨[0,1,4],[]⟩
def VZ:FT:=⟨[0,1,4],[]⟩
end Go.PX
namespace Go.PX
open Go.Proofs
theorem av:bA Tryz.prog tys:=wq (by decide +kernel)
theorem mixed:Tryz.prog.follows .mixedOrders=true:=by decide +kernel
theorem aY{f:FuncId}{fn:Func}{c:Code}(hf:Tryz.prog.funcs[f]?=some fn)(hb:fn.body=some c){ft:FT}{ds:List D}{r:D}(n:Nat)
  (hw:∀ {σ:Type} (Y:Hd σ) (s:σ),Ct Tryz.prog tys ft Y c ⟨dS 0 (inj ds),[],s⟩ (Sk tys fn.results.toList fun v h' s'=>(v = .d r/\h' = [])/\s'=s))
  (gL:oQ ft fn n=true:=by decide +kernel) (hn:ds.length=n:=by rfl):bq Tryz.prog f ds r:=mH mixed av hf hb n gL hn hw
def aV(l:List Int):D:=.vs (l.map fun n=>[i64 n])
def cF(n lo hi:Int):Bool:=decide (lo<=n)&&decide (n<=hi)
theorem Mm(n lo hi:Int):bq Tryz.prog 98 [i64 n,i64 lo,i64 hi] (.bool (cF n lo hi)):=by
 refine mH mixed av Tryz.func98 rfl (ft:=aav) 3 (by decide +kernel) rfl fun {σ} Y s=>?_;conv=>whnf
 refine ag (fun hb=>?_) (fun hb=>?_)
 ·conv=>whnf
  refine aO 0 rfl ⟨⟨?_,rfl⟩,rfl⟩;simp[j9,cF]at hb ⊢;simp[hb]
 ·conv=>whnf
  refine aO 0 rfl ⟨⟨?_,rfl⟩,rfl⟩;simp[j9,cF]at hb ⊢;omega
theorem JO(n lo hi:Int):bq Tryz.prog 21 [i64 n,i64 lo,i64 hi] (.bool (cF n lo hi)):=by
 refine mH mixed av Tryz.func21 rfl (ft:=ZE) 3 (by decide +kernel) rfl fun {σ} Y s=>?_;conv=>whnf
 refine ag (fun hb=>?_) (fun hb=>?_)
 ·conv=>whnf
  refine aO 0 rfl ⟨⟨?_,rfl⟩,rfl⟩;simp[j9,cF]at hb ⊢;simp[hb]
 ·conv=>whnf
  refine aO 0 rfl ⟨⟨?_,rfl⟩,rfl⟩;simp[j9,cF]at hb ⊢;omega
structure Span where
 lo:Int
 hi:Int
 deriving DecidableEq
def Span.cells(s:Span):List D:=[i64 s.lo,i64 s.hi]
def Span.d(s:Span):D:=.agg s.cells
def dH(l:List Span):D:=.vs (l.map Span.cells)
def spread(lo hi:Int):List Span->Int->Int
 | [],e=>e
 | s::r,e=>if cF s.lo lo hi&&cF s.hi lo hi then spread lo hi r (if s.lo>s.hi then 2 else e) else 7
theorem QP(l:List Span)(lo hi:Int)(hl:l.length<4000000000000000000):bq Tryz.prog 23 [dH l,i64 lo,i64 hi] (i64 (spread lo hi l 0)):=by
 refine mH mixed av Tryz.func23 rfl (ft:=ZG) 3 (by decide +kernel) rfl fun {σ} Y s=>?_;conv=>whnf
 refine cD (T:=tys) av (by exact aj mixed av (by decide +kernel)) (α:=Nat×Int)
  (fun x=>⟨[(0,.d (dH l)),(1,.d (i64 lo)),(2,.d (i64 hi)),(7,.d (i64 x.2)),(8,.d (i64 x.1))],[],s⟩) (fun x=>x.1<=l.length/\spread lo hi l 0=spread lo hi (l.drop x.1) x.2) (fun x=>l.length-x.1) (0,0)
  aw (by simp) ?_
 rintro ⟨i,e⟩ ⟨Pe,he⟩;simp only at Pe he;conv=>whnf
 refine ag (fun hb=>?_) (fun hb=>?_)
 ·have hb:i<l.length:=by simpa using hb
  have hd:l.drop i=l[i]::l.drop (i+1):=List.drop_eq_getElem_cons hb;rw[hd,spread]at he;have step:∀ {st':St σ} {e':Int},(cF l[i].lo lo hi&&cF l[i].hi lo hi)=true->e'=(if l[i].lo>l[i].hi then 2 else e)->Wk st' ⟨[(0,.d (dH l)),(1,.d (i64 lo)),(2,.d (i64 hi)),(7,.d (i64 e')),(8,.d (i64 ((i:Int)+1)))],[],s⟩ ->
    ∃ y:Nat×Int,l.length-y.1<l.length-i/\(y.1<=l.length/\spread lo hi l 0=spread lo hi (l.drop y.1) y.2)/\Wk st' ⟨[(0,.d (dH l)),(1,.d (i64 lo)),(2,.d (i64 hi)),(7,.d (i64 y.2)),(8,.d (i64 y.1))],[],s⟩:=by
   intro st' e' h1 h2 h3;rw[if_pos h1]at he;exact⟨(i+1,e'),by simp only;omega,⟨hb,by rw[he,h2]⟩,by simpa using h3⟩
  conv=>whnf
  refine aU l[i].cells (by simp[hb]) ?_;conv=>whnf
  refine af (Mm _ _ _) rfl rfl ?_;conv=>whnf
  refine ag (fun h1=>?_) (fun h1=>?_)
  ·
   conv=>whnf
   rw[if_neg (by simp at h1;simp[h1])]at he;rw[he];exact ai
  ·conv=>whnf
   refine aU l[i].cells (by simp[hb]) ?_;conv=>whnf
   refine af (Mm _ _ _) rfl rfl ?_;conv=>whnf
   refine ag (fun h2=>?_) (fun h2=>?_)
   ·conv=>whnf
    rw[if_neg (by simp at h2;simp[h2])]at he;rw[he];exact ai
   ·conv=>whnf
    refine aU l[i].cells (by simp[hb]) ?_;conv=>whnf
    refine aU l[i].cells (by simp[hb]) ?_;conv=>whnf
    have gN:(cF l[i].lo lo hi&&cF l[i].hi lo hi)=true:=by simp at h1 h2;simp[h1,h2]
    refine ag (fun h3=>?_) (fun h3=>?_)
    ·conv=>whnf
     refine ae ?_;conv=>whnf
     exact step gN (by simp at h3;rw[if_pos h3]) aw
    ·conv=>whnf
     refine ae ?_;conv=>whnf
     exact step gN (by simp at h3;rw[if_neg (by omega)]) aw
 ·have hb:¬ i<l.length:=by simpa using hb
  conv=>whnf
  rw[List.drop_of_length_le (by omega)]at he;simp only[spread]at he;rw[he];exact ai
theorem Zt(n lo hi:Int):bq Tryz.prog 170 [i64 n,.ref [i64 lo],.ref [i64 hi]] (.bool (decide (n<lo)||decide (n>hi))):=by
 refine mH mixed av Tryz.func170 rfl (ft:=VM) 3 (by decide +kernel) rfl fun {σ} Y s=>?_;conv=>whnf
 refine ag (fun hb=>?_) (fun hb=>?_)
 ·conv=>whnf
  refine aO 0 rfl ⟨⟨?_,rfl⟩,rfl⟩;have hb:n<lo:=by simpa using hb
  simp[j9,hb]
 ·conv=>whnf
  refine aO 0 rfl ⟨⟨?_,rfl⟩,rfl⟩;have hb:¬ n<lo:=by simpa using hb
  simp[j9,hb]
def indexOf{α:Type}(p:α->Bool):List α->Int->Int
 | [],_=>-1
 | x::r,i=>if p x then i else indexOf p r (i+1)
theorem ig{α:Type}(p:α->Bool):∀ (l:List α) (i:Int),0<=i->decide (indexOf p l i≥0)=l.any p
 | [],i,_=>by simp[indexOf]
 | x::r,i,h=>by
  simp only[indexOf,List.any_cons];split
  ·rename_i hp;simp[hp,h]
  ·rename_i hp
   rw[ig p r (i+1) (by omega)];simp[hp]
theorem U0(l:List Int)(g:FuncId)(bc:List D)(p:Int->Bool)(hl:l.length<4000000000000000000)(hp:∀ x∈l,bq Tryz.prog g (i64 x::bc) (.bool (p x))) :
  bq Tryz.prog 188 [aV l,.clo g bc] (i64 (indexOf p l 0)):=by
 refine mH mixed av Tryz.func188 rfl (ft:=VO) 2 (by decide +kernel) rfl fun {σ} Y s=>?_;conv=>whnf
 refine cD (T:=tys) av (by exact aj mixed av (by decide +kernel)) (α:=Nat)
  (fun i=>⟨[(0,.d (aV l)),(1,.d (.clo g bc)),(7,.d (i64 l.length)),(8,.d (i64 i))],[],s⟩) (fun i=>i<=l.length/\indexOf p l 0=indexOf p (l.drop i) i) (fun i=>l.length-i) 0
  (Wk.sub ⟨rfl,rfl,by simp[PX.get],rfl,trivial⟩ trivial) (by simp) ?_
 rintro i ⟨hi,he⟩;conv=>whnf
 refine ag (fun hb=>?_) (fun hb=>?_)
 ·have hb:i<l.length:=by simpa using hb
  have hd:l.drop i=l[i]::l.drop (i+1):=List.drop_eq_getElem_cons hb;rw[hd,indexOf]at he;conv=>whnf
  refine aU [i64 l[i]] (by simp[hb]) ?_;conv=>whnf
  refine af (ds:=i64 l[i]::bc) (hp _ (List.getElem_mem hb)) rfl rfl ?_;conv=>whnf
  refine ag (fun h1=>?_) (fun h1=>?_)
  ·conv=>whnf
   rw[if_pos h1]at he;rw[he];exact ai
  ·conv=>whnf
   rw[if_neg (by simp[h1])]at he;refine ae ?_;conv=>whnf
   exact⟨i+1,by omega,⟨hb,by rw[he];rfl⟩,Wk.sub ⟨rfl,rfl,rfl,rfl,trivial⟩ trivial⟩
 ·have hb:¬ i<l.length:=by simpa using hb
  conv=>whnf
  rw[List.drop_of_length_le (by omega)]at he;rw[he];exact ai
theorem U3(l:List Int)(g:FuncId)(bc:List D)(p:Int->Bool)(hl:l.length<4000000000000000000)(hp:∀ x∈l,bq Tryz.prog g (i64 x::bc) (.bool (p x))) :
  bq Tryz.prog 158 [aV l,.clo g bc] (.bool (l.any p)):=by
 refine mH mixed av Tryz.func158 rfl (ft:=VF) 2 (by decide +kernel) rfl fun {σ} Y s=>?_;conv=>whnf
 refine af (U0 l g bc p hl hp) rfl rfl ?_;conv=>whnf
 refine aO 0 rfl ⟨⟨?_,rfl⟩,rfl⟩;rw[<- ig p l 0 (by omega)];rfl
theorem U2(lo hi:Int)(l:List Int)(hl:l.length<4000000000000000000):bq Tryz.prog 109 [i64 lo,i64 hi,aV l] (.bool (l.any fun n=>decide (n<lo)||decide (n>hi))):=by
 refine mH mixed av Tryz.func109 rfl (ft:=U9) 3 (by decide +kernel) rfl fun {σ} Y s=>?_;conv=>whnf
 refine aA (U3 l 170 [.ref [i64 lo],.ref [i64 hi]] (fun n=>decide (n<lo)||decide (n>hi)) hl fun x _=>Zt x lo hi) rfl 1 rfl ?_;conv=>whnf
 exact ai
end Go.PX
