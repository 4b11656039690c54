import Derived.Test.YtmbefpmbnhdbpaaGreatDoorPxN
import Derived.Test.YtmbefpmbnhdbpaaGreatDoorPxK
set_option linter.all false
set_option maxRecDepth 10000
namespace Go.PX
open Go.Proofs
theorem BX:∀ {k:Nat} {v u:Int},u∈upto k v↔v<=u/\u<v+k
 | 0,v,u=>by
  simp only[upto,List.not_mem_nil,false_iff];omega
 | k+1,v,u=>by
  rw[upto,List.mem_cons,BX];omega
theorem r4{s:Span}{u:Int}:u∈nN s↔s.lo<=u/\u<=s.hi:=by
 unfold nN;rw[BX];omega
theorem nI{s:Span}:∀ {k:Nat} {l:List Int},l∈gT s k↔l.length=k /\ ∀ v∈l,s.lo<=v/\v<=s.hi
 | 0,l=>by
  rw[gT,List.mem_singleton,List.length_eq_zero_iff];constructor
  ·rintro rfl;exact⟨rfl,by simp⟩
  ·exact fun h=>h.1
 | k+1,l=>by
  rw[gT,List.mem_flatMap];constructor
  ·rintro ⟨v,hv,hl⟩
   obtain⟨r,hr,rfl⟩:=List.mem_map.1 hl;obtain⟨h1,h2⟩:=nI.1 hr;refine⟨by simp[h1],fun u hu=>?_⟩;rcases List.mem_cons.1 hu with rfl|hu
   ·exact r4.1 hv
   ·exact h2 u hu
  ·rintro ⟨h1,h2⟩
   cases l with
   | nil=>simp at h1
   | cons v r=>
    exact⟨v,r4.2 (h2 v (by simp)),List.mem_map.2 ⟨r,nI.2 ⟨by simpa using h1,fun u hu=>h2 u (by simp[hu])⟩,rfl⟩⟩
theorem uM{c:bG}{t:bm}:t∈Ej c.aB c.az↔ld c t:=by
 unfold Ej;rw[List.mem_flatMap];constructor
 ·rintro ⟨st,h1,h2⟩
  obtain⟨l,hl,rfl⟩:=List.mem_map.1 h2;obtain⟨h3,h4⟩:=nI.1 hl;exact⟨r4.1 h1,h3,h4⟩
 ·intro h
  exact⟨t.start,r4.2 h.start,List.mem_map.2 ⟨t.aW,nI.2 ⟨h.len,h.speed⟩,rfl⟩⟩
theorem nu.up{c:bG}(h0:(bN c).2.2=0):UG c.aB 0 c.az/\UH c.aB c.az:=by
 have hn:=(ed h0).aB.night;unfold bN at h0;split at h0;case isFalse=>rename_i h1;exact absurd h0 h1
 split at h0
 ·cases h0
 split at h0;case isFalse=>rename_i h3;exact absurd h0 h3
 rename_i h3;exact⟨Cr h3 (by omega),(Gp h3).1⟩
theorem yr{c:bG}(h0:(bN c).2.2=0){p:bm×List Bool}(hp:p∈iS c):ld c p.1/\p.2=bX c.aB c.az p.1/\p.2.length=c.aB.night.toNat:=by
 unfold iS at hp;rw[rA (nu.up h0).1]at hp;obtain⟨t,ht,rfl⟩:=List.mem_map.1 hp;exact⟨uM.1 (List.mem_filter.1 ht).1,rfl,by simp only[bX,jr]⟩
theorem l7{c:bG}(h0:(bN c).2.2=0):Yields Tryz.prog 190 [.ref [.ref (iX c.aB)],.ref [aV c.az],.ref [.clo 160 [.ref [.mv (qS (vi c.bW))]]]] ((iS c).map wj):=by
 have hR:=ed h0;exact fun {γ}=>wD hR.aB hR.p8 hR.Yz (nu.up h0).2 (Gm c)
def qo(s:Int)(k:Int)(p:bm×List Bool):Int:=iT .or .i64 k (if p.2.getD s.toNat false then 2 else 1)
def AP(l:List (bm×List Bool))(s:Int):Int:=l.foldl (qo s) 0
def JA(c:bG)(s:Int):Int:=if (bN c).2.2=0 then (if cF s 0 (c.aB.night-1) then (if AP (iS c) s=0 then 9 else 0) else 7) else (bN c).2.2
def wJ(c:bG)(s:Int):Int:=if JA c s=0 then (if AP (iS c) s=1 then 0 else if AP (iS c) s=2 then 1 else 2) else 0
set_option maxHeartbeats 1000000 in
theorem TG(c:bG)(s:Int):bq Tryz.prog 19 [c.d,i64 s] (.tup [i64 (wJ c s),i64 (JA c s)]):=by
 refine aY Tryz.func19 rfl (ft:=ZC) 2 fun {σ} Y st=>?_;conv=>whnf
 refine af (Ni c) rfl rfl ?_;conv=>whnf
 by_cases h0:(bN c).2.2=0;case neg=>
  have he:JA c s=(bN c).2.2:=by unfold JA;rw[if_neg h0]
  have hv:wJ c s=0:=by unfold wJ;rw[he,if_neg h0]
  rw[he,hv];refine ag (fun _=>?_) (fun h1=>absurd h1 (by simp[h0]));conv=>whnf
  exact ai
 have hR:=ed h0;have hn:=hR.aB.night;refine ag (fun h1=>absurd h1 (by simp[h0])) (fun _=>?_);conv=>whnf
 refine ae ?_;conv=>whnf
 refine aA (lN 0 (c.aB.night-1) s) rfl 1 rfl ?_;conv=>whnf
 by_cases h1:cF s 0 (c.aB.night-1)=true;case neg=>
  have he:JA c s=7:=by unfold JA;rw[if_pos h0,if_neg h1]
  have hv:wJ c s=0:=by unfold wJ;rw[he];rfl
  rw[he,hv];have h1:cF s 0 (c.aB.night-1)=false:=by simpa using h1
  rw[h1];conv=>whnf
  exact ai
 have he:JA c s=if AP (iS c) s=0 then 9 else 0:=by unfold JA;rw[if_pos h0,if_pos h1]
 rw[h1];rw[cj]at h1;conv=>whnf
 refine af (PN c hR) rfl rfl ?_;conv=>whnf
 refine gl av (by exact aj mixed av (by decide +kernel)) (by exact aj mixed av (by decide +kernel)) rfl 1500000 1600000 [2,3,27,9] (by exact l7 h0)
  (fun(k:Int)=>([(1500000,.box (.dd c.cells)),(1500001,.box (.dd [i64 s])),(1500002,.arr 1 (.dd [[i64 s]])),(1500003,.box (.dd [i64 k]))],st))
  (fun rest k=>AP (iS c) s=rest.foldl (qo s) k /\ ∀ p∈rest,p.2.length=c.aB.night.toNat) 0 rfl rfl rfl ⟨rfl,fun p hp=>(yr h0 hp).2.2⟩ ?_ ?_
 ·rintro ⟨t,lit⟩ rest k ⟨hk,hl⟩ Q xD -
  refine⟨⟨rfl,rfl⟩,?_⟩;have wV:=hl (t,lit) (by simp);simp only at wV;rw[List.foldl_cons]at hk;have hs:s.toNat<lit.length:=by omega
  have hg:lit.getD s.toNat false=lit[s.toNat]:=by simp[List.getD_eq_getElem?_getD,hs]
  conv=>whnf
  refine aU [.bool lit[s.toNat]] ⟨h1.1,by simp[hs]⟩ ?_;have dO:∀ p∈rest,p.2.length=c.aB.night.toNat:=fun p hp=>hl p (by simp[hp])
  cases hb:lit[s.toNat]with
  | true=>
   have ja:qo s k (t,lit)=iT .or .i64 k 2:=by unfold qo;simp only[hg,hb,if_true]
   rw[ja]at hk;conv=>whnf
   exact⟨iT .or .i64 k 2,aw,rfl,xD _ ⟨hk,dO⟩⟩
  | false=>
   have ja:qo s k (t,lit)=iT .or .i64 k 1:=by unfold qo;simp only[hg,hb];rfl
   rw[ja]at hk;conv=>whnf
   exact⟨iT .or .i64 k 1,aw,rfl,xD _ ⟨hk,dO⟩⟩
 ·rintro k ⟨hk,_⟩
  simp only[List.foldl_nil]at hk;conv=>whnf
  rw[<- hk];by_cases k0:AP (iS c) s=0
  ·have hv:wJ c s=0:=by unfold wJ;rw[he,if_pos k0];rfl
   rw[he,if_pos k0,hv];refine ag (fun _=>?_) (fun h=>absurd h (by simp[k0]));conv=>whnf
   exact ai
  rw[if_neg k0]at he;have hv:wJ c s=if AP (iS c) s=1 then 0 else if AP (iS c) s=2 then 1 else 2:=by unfold wJ;rw[he,if_pos rfl]
  rw[he,hv];refine ag (fun h=>absurd h (by simp[k0])) (fun _=>?_);conv=>whnf
  by_cases k1:AP (iS c) s=1
  ·rw[if_pos k1]
   refine ag (fun _=>?_) (fun h=>absurd h (by simp[k1]));conv=>whnf
   exact ai
  rw[if_neg k1];refine ag (fun h=>absurd h (by simp[k1])) (fun _=>?_);conv=>whnf
  by_cases k2:AP (iS c) s=2
  ·rw[if_pos k2]
   refine ag (fun _=>?_) (fun h=>absurd h (by simp[k2]));conv=>whnf
   exact ai
  rw[if_neg k2];refine ag (fun h=>absurd h (by simp[k2])) (fun _=>?_);conv=>whnf
  exact ai
def cX(s:Span)(n:Int):Span:=⟨min s.lo n,max s.hi n⟩
theorem PO(s:Span)(n:Int):bq Tryz.prog 135 [s.d,i64 n] (cX s n).d:=by
 refine aY Tryz.func135 rfl (ft:=Vm) 2 fun {σ} Y st=>?_;conv=>whnf
 exact ai
def r6(acc:Option (Span×List Span))(t:bm):Option (Span×List Span):=match acc with
 | none=>some (⟨t.start,t.start⟩,t.aW.map fun n=>⟨n,n⟩)
 | some (a,l)=>some (cX a t.start,List.zipWith cX l t.aW)
def tz(l:List (bm×List Bool)):Option (Span×List Span):=l.foldl (fun acc p=>r6 acc p.1) none
theorem Gr{l:List Span}{sp:List Int}{i:Nat}{v:Int}{y:Span}(hs:sp[i]?=some v)(hx:l[i]?=some y) :
  (List.zipWith cX (l.take i) (sp.take i)++l.drop i).set i (cX y v)=List.zipWith cX (l.take (i+1)) (sp.take (i+1))++l.drop (i+1):=by
 have hi:i<l.length:=(List.getElem?_eq_some_iff.1 hx).1;have hj:i<sp.length:=(List.getElem?_eq_some_iff.1 hs).1;have hd:l.drop i=y::l.drop (i+1):=by
  rw[List.drop_eq_getElem_cons hi];rw[List.getElem?_eq_getElem hi]at hx;rw[Option.some.inj hx]
 have hlen:(List.zipWith cX (l.take i) (sp.take i)).length=i:=by simp;omega
 rw[hd,List.take_succ,List.take_succ,hs,hx,List.zipWith_append (by simp;omega),List.set_append_right _ _ (by omega),hlen,Nat.sub_self];simp
theorem Js{l:List Span}{sp:List Int}{i:Nat}{y:Span}(hl:i<sp.length)(hx:l[i]?=some y):(List.zipWith cX (l.take i) (sp.take i)++l.drop i)[i]?=some y:=by
 have hi:i<l.length:=(List.getElem?_eq_some_iff.1 hx).1;have hlen:(List.zipWith cX (l.take i) (sp.take i)).length=i:=by simp;omega
 rw[List.getElem?_append_right (by omega),hlen,Nat.sub_self,List.getElem?_drop,Nat.add_zero];exact hx
def vY(c:bG):Int:=if (bN c).2.2=0 then (match tz (iS c) with|none=>9|some _=>0) else (bN c).2.2
def vX(c:bG):Span:=if (bN c).2.2=0 then (match tz (iS c) with|none=>⟨0,0⟩|some (a,_)=>a) else ⟨0,0⟩
def r5(c:bG):List Span:=if (bN c).2.2=0 then (match tz (iS c) with|none=>[]|some (_,l)=>l) else []
def T4(c:bG)(o:Option (Span×List Span)):Heap:=match o with
 | none=>[(1500000,.box (.dd c.cells)),(1500001,.box (.dd [i64 0,i64 0])),(1500002,.box (.dd [.nils]))]
 | some (a,l)=>[(1500000,.box (.dd c.cells)),(1500001,.box (.dd a.cells)),(1500002,.box (.vv [.sl 45 2 0 l.length])),(45,.arr 2 (.dd (l.map Span.cells)))]
theorem xv(n:Int):cX ⟨n,n⟩ n=⟨n,n⟩:=by simp[cX]
set_option maxHeartbeats 1000000 in
theorem abh(c:bG):bq Tryz.prog 77 [c.d] (.tup [(vX c).d,dH (r5 c),i64 (vY c)]):=by
 refine aY Tryz.func77 rfl (ft:=aaa) 1 fun {σ} Y st=>?_;conv=>whnf
 refine af (Ni c) rfl rfl ?_;conv=>whnf
 by_cases h0:(bN c).2.2=0;case neg=>
  have he:vY c=(bN c).2.2:=by unfold vY;rw[if_neg h0]
  have hv:vX c=⟨0,0⟩:=by unfold vX;rw[if_neg h0]
  have hb:r5 c = []:=by unfold r5;rw[if_neg h0]
  rw[he,hv,hb];refine ag (fun _=>?_) (fun h1=>absurd h1 (by simp[h0]));conv=>whnf
  exact dC 0 rfl rfl ⟨⟨rfl,rfl⟩,rfl⟩
 have hR:=ed h0;have hn:=hR.aB.night;have he:vY c=match tz (iS c) with|none=>9|some _=>0:=by unfold vY;rw[if_pos h0]
 have hv:vX c=match tz (iS c) with|none=>⟨0,0⟩|some (a,_)=>a:=by unfold vX;rw[if_pos h0]
 have hb:r5 c=match tz (iS c) with|none=>[]|some (_,l)=>l:=by unfold r5;rw[if_pos h0]
 refine ag (fun h1=>absurd h1 (by simp[h0])) (fun _=>?_);conv=>whnf
 refine af (PN c hR) rfl rfl ?_;conv=>whnf
 refine gl av (by exact aj mixed av (by decide +kernel)) (by exact aj mixed av (by decide +kernel)) rfl 1500000 1600000 [1,2,3] (by exact l7 h0)
  (fun(o:Option (Span×List Span))=>(T4 c o,st))
  (fun(rest:List (bm×List Bool)) (o:Option (Span×List Span))=>tz (iS c)=rest.foldl (fun acc p=>r6 acc p.1) o/\(∀ a l,o=some (a,l)->l.length=c.az.length+1) /\ ∀ p∈rest,p.1.aW.length=c.az.length+1) none rfl rfl rfl ⟨rfl,⟨fun a l (h:none=some (a,l))=>(by cases h),fun p hp=>(yr h0 hp).1.len⟩⟩ ?_ ?_
 ·rintro ⟨t,lit⟩ rest o ⟨hk,MY,hl⟩ Q xD -
  refine⟨⟨rfl,rfl⟩,?_⟩;have Kb:=hl (t,lit) (by simp);have hw:=hR.p8;simp only at Kb;rw[List.foldl_cons]at hk;have dO:∀ p∈rest,p.1.aW.length=c.az.length+1:=fun p hp=>hl p (by simp[hp])
  cases o with
  | none=>
   conv=>whnf
   refine⟨fun b nr=>?_⟩;cases nr trivial
   conv=>whnf
   refine bB (T:=tys) av (by exact aj mixed av (by decide +kernel)) t.aW (fun i (acc:List Span)=>⟨[(1,.ptr 1500000 0),(2,.ptr 1500001 0),(3,.ptr 1500002 0),(5,.ptr 5 0),(34,.d (aV t.aW)),(35,.d (i64 t.aW.length)),(36,.d (i64 i))],[(1500000,.box (.dd c.cells)),(1500001,.box (.dd [i64 t.start,i64 t.start])),(5,.box (.dd [i64 t.start,aV t.aW,dj lit])),(1500002,.box (.vv [.sl 45 2 0 acc.length])),(45,.arr 2 (.dd (acc.map Span.cells)))],st⟩)
    (fun i r acc=>(t.aW.map fun n=>(⟨n,n⟩:Span))=acc++r.map fun n=>⟨n,n⟩) [] ((Wk.CL 1500002 45 2 rfl rfl rfl rfl).trans aw) rfl ?_ ?_
   ·intro i v r acc hx hi hr hj
    conv=>whnf
    refine ag (fun _=>?_) (fun h=>absurd hi (by simpa using h));conv=>whnf
    refine aG hx ?_;conv=>whnf
    refine ak rfl ?_;conv=>whnf
    refine ak (by simp[bx.len]) ?_;conv=>whnf
    have AV:acc.length<=1000:=by
     have:=congrArg List.length hj;simp at this;omega
    refine aM (decide_eq_true (by
     show((acc.map Span.cells).length+1)*16<=140737488355328;rw[List.length_map];omega)) ?_
    conv=>whnf
    refine ae ?_;conv=>whnf
    refine⟨acc ++ [⟨v,v⟩],by rw[hj];simp,Wk.sub ⟨rfl,rfl,rfl,rfl,rfl,rfl,rfl,trivial⟩ ⟨rfl,rfl,rfl,?_,?_,trivial⟩⟩
    ·simp[PX.get,bx.len]
    ·simp[PX.get,bx.app,Span.cells]
   intro acc hj;simp only[List.map_nil,List.append_nil]at hj;conv=>whnf
   refine ag (fun h=>absurd h (by simp)) (fun _=>?_);conv=>whnf
   refine af (PO ⟨t.start,t.start⟩ t.start) rfl rfl ?_;conv=>whnf
   rw[xv];have wV:acc.length=t.aW.length:=by rw[<- hj,List.length_map]
   have fo:r6 none t=some (⟨t.start,t.start⟩,List.zipWith cX acc t.aW):=by
    have:List.zipWith cX acc t.aW=acc:=by
     rw[<- hj];apply List.ext_getElem?;intro i;simp only[List.getElem?_zipWith,List.getElem?_map]
     cases t.aW[i]? with
     | none=>rfl
     | some n=>simp[xv]
    rw[this,<- hj];rfl
   conv=>whnf
   refine bB (T:=tys) av (by exact aj mixed av (by decide +kernel)) t.aW (fun i (g:List Span)=>⟨[(1,.ptr 1500000 0),(2,.ptr 1500001 0),(3,.ptr 1500002 0),(5,.ptr 5 0),(54,.d (aV t.aW)),(55,.d (i64 t.aW.length)),(56,.d (i64 i))],[(1500000,.box (.dd c.cells)),(1500001,.box (.dd (Span.cells (⟨t.start,t.start⟩:Span)))),(1500002,.box (.vv [.sl 45 2 0 g.length])),(45,.arr 2 (.dd (g.map Span.cells)))],st⟩)
    (fun i r g=>g=List.zipWith cX ((acc).take i) (t.aW.take i)++(acc).drop i) (acc) aw (by simp) ?_ ?_
   ·intro i v r g hx hi hr hj
    have O9:g.length=t.aW.length:=by rw[hj];simp;omega
    have Hj:i<(acc).length:=by omega
    obtain⟨y,hy⟩:∃ y,(acc)[i]?=some y:=⟨_,List.getElem?_eq_getElem Hj⟩;have WB:g[i]?=some y:=by rw[hj];exact Js hi hy
    have ja:=Gr hx hy;rw[<- hj]at ja;conv=>whnf
    refine ag (fun _=>?_) (fun h=>absurd hi (by simpa using h));conv=>whnf
    refine aG hx ?_;conv=>whnf
    refine aM (by simp;omega) ?_;conv=>whnf
    refine cJ (Span.cells y) (by simp[WB]) ?_;conv=>whnf
    refine ax (PO y v) rfl rfl ?_;conv=>whnf
    refine aM (by simp;omega) ?_;conv=>whnf
    refine cJ (Span.cells y) (by simp[WB]) ?_;conv=>whnf
    refine ae ?_;conv=>whnf
    refine⟨g.set i (cX y v),ja,Wk.sub ⟨rfl,rfl,rfl,rfl,rfl,rfl,rfl,trivial⟩ ⟨rfl,rfl,?_,?_,trivial⟩⟩
    ·simp[PX.get]
    ·show some (Obj.arr 2 (bx.dd ((g.map Span.cells).set (0+(i:Int).toNat) [i64 (cX y v).lo,i64 (cX y v).hi])))=some (Obj.arr 2 (bx.dd ((g.set i (cX y v)).map Span.cells)))
     rw[List.map_set];simp[Span.cells]
   intro g hj;have hg:g=List.zipWith cX (acc) t.aW:=by rw[hj,List.drop_eq_nil_of_le (by omega),List.append_nil,List.take_of_length_le (by omega),List.take_of_length_le (by omega)]
   have O9:g.length=c.az.length+1:=by rw[hg];simp;omega
   rw[<- hg]at fo;conv=>whnf
   refine ag (fun h=>absurd h (by simp)) (fun _=>?_);conv=>whnf
   simp only[fo]at hk;exact⟨some ((⟨t.start,t.start⟩:Span),g),aw,rfl,xD _ ⟨hk,⟨fun a' l' h'=>(by cases h';exact O9),dO⟩⟩⟩
  | some al=>
   obtain⟨a,l⟩:=al;have wV:=MY a l rfl;conv=>whnf
   refine⟨fun b nr=>?_⟩;cases nr (by omega)
   conv=>whnf
   refine af (PO a t.start) rfl rfl ?_;conv=>whnf
   have wV:l.length=t.aW.length:=by omega
   have fo:r6 (some (a,l)) t=some (cX a t.start,List.zipWith cX l t.aW):=rfl;conv=>whnf
   refine bB (T:=tys) av (by exact aj mixed av (by decide +kernel)) t.aW (fun i (g:List Span)=>⟨[(1,.ptr 1500000 0),(2,.ptr 1500001 0),(3,.ptr 1500002 0),(5,.ptr 5 0),(54,.d (aV t.aW)),(55,.d (i64 t.aW.length)),(56,.d (i64 i))],[(1500000,.box (.dd c.cells)),(1500001,.box (.dd (Span.cells (cX a t.start)))),(1500002,.box (.vv [.sl 45 2 0 g.length])),(45,.arr 2 (.dd (g.map Span.cells)))],st⟩)
    (fun i r g=>g=List.zipWith cX ((l).take i) (t.aW.take i)++(l).drop i) (l) aw (by simp) ?_ ?_
   ·intro i v r g hx hi hr hj
    have O9:g.length=t.aW.length:=by rw[hj];simp;omega
    have Hj:i<(l).length:=by omega
    obtain⟨y,hy⟩:∃ y,(l)[i]?=some y:=⟨_,List.getElem?_eq_getElem Hj⟩;have WB:g[i]?=some y:=by rw[hj];exact Js hi hy
    have ja:=Gr hx hy;rw[<- hj]at ja;conv=>whnf
    refine ag (fun _=>?_) (fun h=>absurd hi (by simpa using h));conv=>whnf
    refine aG hx ?_;conv=>whnf
    refine aM (by simp;omega) ?_;conv=>whnf
    refine cJ (Span.cells y) (by simp[WB]) ?_;conv=>whnf
    refine ax (PO y v) rfl rfl ?_;conv=>whnf
    refine aM (by simp;omega) ?_;conv=>whnf
    refine cJ (Span.cells y) (by simp[WB]) ?_;conv=>whnf
    refine ae ?_;conv=>whnf
    refine⟨g.set i (cX y v),ja,Wk.sub ⟨rfl,rfl,rfl,rfl,rfl,rfl,rfl,trivial⟩ ⟨rfl,rfl,?_,?_,trivial⟩⟩
    ·simp[PX.get]
    ·show some (Obj.arr 2 (bx.dd ((g.map Span.cells).set (0+(i:Int).toNat) [i64 (cX y v).lo,i64 (cX y v).hi])))=some (Obj.arr 2 (bx.dd ((g.set i (cX y v)).map Span.cells)))
     rw[List.map_set];simp[Span.cells]
   intro g hj;have hg:g=List.zipWith cX (l) t.aW:=by rw[hj,List.drop_eq_nil_of_le (by omega),List.append_nil,List.take_of_length_le (by omega),List.take_of_length_le (by omega)]
   have O9:g.length=c.az.length+1:=by rw[hg];simp;omega
   rw[<- hg]at fo;conv=>whnf
   refine ag (fun h=>absurd h (by simp)) (fun _=>?_);conv=>whnf
   simp only[fo]at hk;exact⟨some ((cX a t.start),g),aw,rfl,xD _ ⟨hk,⟨fun a' l' h'=>(by cases h';exact O9),dO⟩⟩⟩
 ·rintro o ⟨hk,MY,_⟩
  simp only[List.foldl_nil]at hk;rw[hk]at he hv hb
  cases o with
  | none=>
   simp only at he hv hb;rw[he,hv,hb];conv=>whnf
   refine⟨fun b nr=>?_⟩;cases nr trivial
   conv=>whnf
   exact dC 0 rfl rfl ⟨⟨rfl,rfl⟩,rfl⟩
  | some al=>
   obtain⟨a,l⟩:=al;simp only at he hv hb;rw[he,hv,hb];have wV:=MY a l rfl;conv=>whnf
   refine⟨fun b nr=>?_⟩;cases nr (by omega)
   conv=>whnf
   exact aO 1 (ds:=[a.d,dH l,i64 0]) (aC rfl (aC (cH rfl (by simp)) rfl)) ⟨⟨rfl,rfl⟩,rfl⟩
theorem Rz(n:Int):bq Tryz.prog 214 [i64 n] (.bool false):=by
 refine aY Tryz.func214 rfl (ft:=VX) 1 fun {σ} Y st=>?_;conv=>whnf
 refine aO 0 rfl ⟨⟨?_,rfl⟩,rfl⟩;simp[j9]
def Sb(a b:Int):Int:=if a<b then -1 else if a>b then 1 else 0
theorem Xz(a b:Int):bq Tryz.prog 193 [i64 a,i64 b] (i64 (Sb a b)):=by
 refine aY Tryz.func193 rfl (ft:=VR) 2 fun {σ} Y st=>?_;conv=>whnf
 refine af (Rz a) rfl rfl ?_;conv=>whnf
 refine af (Rz b) rfl rfl ?_;conv=>whnf
 unfold Sb;refine ag (fun h1=>?_) (fun h1=>?_)
 ·have h1:a<b:=by simpa using h1
  conv=>whnf
  rw[if_pos h1];exact ai
 have h1:¬ a<b:=by simpa using h1
 rw[if_neg h1];conv=>whnf
 refine ag (fun h2=>?_) (fun h2=>?_)
 ·have h2:a>b:=by simpa using h2
  conv=>whnf
  rw[if_pos h2];exact ai
 ·have h2:¬ a>b:=by simpa using h2
  conv=>whnf
  rw[if_neg h2];exact ai
def jK:List Int->List Int->Int
 | [],[]=>0
 | [],_::_=>-1
 | _::_,[]=>1
 | a::r,b::s=>if a<b then -1 else if a>b then 1 else jK r s
theorem aby(a b:List Int)(ha:a.length<1000000)(hb:b.length<1000000):bq Tryz.prog 142 [aV a,aV b] (i64 (jK a b)):=by
 refine aY Tryz.func142 rfl (ft:=Vs) 2 fun {σ} Y st=>?_;conv=>whnf
 refine bB (T:=tys) av (by exact aj mixed av (by decide +kernel)) a (fun i (_:Unit)=>⟨[(0,.d (aV a)),(1,.d (aV b)),(9,.d (aV a)),(10,.d (i64 a.length)),(11,.d (i64 i))],[],st⟩) (fun i r _=>jK a b=jK r (b.drop i)/\i<=b.length) () aw ⟨rfl,Nat.zero_le _⟩ ?_ ?_
 ·intro i x r _ hx hi hr ⟨he,hib⟩
  conv=>whnf
  refine ag (fun _=>?_) (fun h=>absurd hi (by simpa using h));conv=>whnf
  refine aG hx ?_;conv=>whnf
  refine ag (fun h1=>?_) (fun h1=>?_)
  ·have h1:b.length<=i:=by simpa using h1
   rw[List.drop_eq_nil_of_le h1,jK]at he;conv=>whnf
   rw[he];exact ai
  have h1:i<b.length:=by simp at h1;omega
  obtain⟨y,hy⟩:∃ y,b[i]?=some y:=⟨_,List.getElem?_eq_getElem h1⟩;have hd:b.drop i=y::b.drop (i+1):=by
   rw[List.drop_eq_getElem_cons h1];rw[List.getElem?_eq_getElem h1]at hy;rw[Option.some.inj hy]
  rw[hd,jK]at he;conv=>whnf
  refine aU [i64 y] ⟨by omega,by simp[hy]⟩ ?_;conv=>whnf
  refine af (Xz x y) rfl rfl ?_;conv=>whnf
  unfold Sb;by_cases h2:x<y
  ·rw[if_pos h2]at he
   rw[if_pos h2];conv=>whnf
   rw[he];exact ai
  rw[if_neg h2]at he;rw[if_neg h2];by_cases h3:x>y
  ·rw[if_pos h3]at he
   rw[if_pos h3];conv=>whnf
   rw[he];exact ai
  rw[if_neg h3]at he;rw[if_neg h3];conv=>whnf
  refine ae ?_;conv=>whnf
  exact⟨(),⟨he,by omega⟩,aw⟩
 ·intro _ ⟨he,hib⟩
  conv=>whnf
  refine ag (fun h=>absurd h (by simp)) (fun _=>?_);conv=>whnf
  refine ag (fun h1=>?_) (fun h1=>?_)
  ·have h1:a.length<b.length:=by simpa using h1
   rw[List.drop_eq_getElem_cons h1,jK]at he;conv=>whnf
   rw[he];exact ai
  ·have h1:b.length<=a.length:=by simpa using h1
   rw[List.drop_eq_nil_of_le h1,jK]at he;conv=>whnf
   rw[he];exact ai
def L8(a b:List Int):Int:=if a.length=b.length then jK a b else a.length-b.length
theorem abx(a b:List Int)(ha:a.length<1000000)(hb:b.length<1000000):bq Tryz.prog 141 [aV a,aV b] (i64 (L8 a b)):=by
 refine aY Tryz.func141 rfl (ft:=Vr) 2 fun {σ} Y st=>?_;conv=>whnf
 unfold L8;refine ag (fun h1=>?_) (fun h1=>?_)
 ·have h1:¬ a.length=b.length:=by simp at h1;omega
  rw[if_neg h1];conv=>whnf
  refine ao ((a.length:Int)-b.length) (by simp) (wrap_i64 (by omega)) ?_;conv=>whnf
  exact ai
 ·have h1:a.length=b.length:=by simp at h1;omega
  rw[if_pos h1];conv=>whnf
  refine af (aby a b ha hb) rfl rfl ?_;conv=>whnf
  exact ai
def vM(acc:Option (List Int))(y:List Int):Option (List Int):=match acc with
 | none=>some y
 | some x=>if L8 y x<0 then some y else some x
def Dk(l:List (List Int)):Option (List Int):=l.foldl vM none
def TL(o:Option (List Int)):D:=match o with
 | none=>.tup [.nils,.bool false]
 | some x=>.tup [aV x,.bool true]
theorem abw{f:FuncId}{bc:List D}{items:List (List Int)}(hy:Yields Tryz.prog f bc (items.map fun l=>([.d (aV l)],[])))(hl:∀ l∈items,l.length<1000000):bq Tryz.prog 140 [.clo f bc,.clo 141 []] (TL (Dk items)):=by
 refine aY Tryz.func140 rfl (ft:=Vq) 2 fun {σ} Y st=>?_;conv=>whnf
 refine gl av (by exact aj mixed av (by decide +kernel)) (by exact aj mixed av (by decide +kernel)) rfl 1500000 1600000 [3,4,5] (by exact hy)
  (fun(o:Option (List Int))=>(match o with
   | none=>[(1500000,.box (.dd [.clo 141 []])),(1500001,.box (.dd [.nils])),(1500002,.box (.dd [.bool false]))]
   | some x=>[(1500000,.box (.dd [.clo 141 []])),(1500001,.box (.dd [aV x])),(1500002,.box (.dd [.bool true]))],st))
  (fun(rest:List (List Int)) (o:Option (List Int))=>Dk items=rest.foldl vM o/\(∀ x,o=some x->x.length<1000000) /\ ∀ l∈rest,l.length<1000000) none rfl rfl rfl ⟨rfl,⟨fun x (h:none=some x)=>(by cases h),hl⟩⟩ ?_ ?_
 ·rintro y rest o ⟨hk,ho,hr⟩ Q xD -
  refine⟨⟨rfl,rfl⟩,?_⟩;rw[List.foldl_cons]at hk;have hy:=hr y (by simp);have dO:∀ l∈rest,l.length<1000000:=fun l h=>hr l (by simp[h])
  cases o with
  | none=>
   conv=>whnf
   exact⟨some y,aw,rfl,xD _ ⟨hk,⟨fun x h=>(by cases h;exact hy),dO⟩⟩⟩
  | some x=>
   have hx:=ho x rfl;conv=>whnf
   refine af (abx y x hy hx) rfl rfl ?_;conv=>whnf
   rw[vM]at hk;refine ag (fun h1=>?_) (fun h1=>?_)
   ·have h1:L8 y x<0:=by simpa using h1
    rw[if_pos h1]at hk;conv=>whnf
    exact⟨some y,aw,rfl,xD _ ⟨hk,⟨fun x h=>(by cases h;exact hy),dO⟩⟩⟩
   ·have h1:¬ L8 y x<0:=by simpa using h1
    rw[if_neg h1]at hk;conv=>whnf
    exact⟨some x,aw,rfl,xD _ ⟨hk,⟨ho,dO⟩⟩⟩
 ·rintro o ⟨hk,ho,_⟩
  simp only[List.foldl_nil]at hk;rw[hk]
  cases o with
  | none=>
   conv=>whnf
   exact ai
  | some x=>
   conv=>whnf
   exact ai
def jZ(lit:List Bool):List dW->Int->List Int
 | [],_=>[]
 | s::r,i=>if lit.getD s.second.toNat false=s.lit then jZ lit r (i+1) else i::jZ lit r (i+1)
def Oh:Int->Bool->Bool:=fun _ _=>true
theorem abv(s:Int)(b:Bool):bq Tryz.prog 139 [i64 s,.bool b] (.bool true):=by
 refine aY Tryz.func139 rfl (ft:=Vp) 2 fun {σ} Y st=>?_;conv=>whnf
 exact ai
def OL(c:bG):List (bm×List Bool):=K6 c.aB c.az Oh
def yi(c:bG):List (List Int):=(OL c).map fun p=>jZ p.2 c.bW 0
theorem Fy:∀ (l:List Bool) (s:Int),okW Oh s l=true
 | [],_=>rfl
 | b::r,s=>by rw[okW,Fy];rfl
theorem OM{c:bG}(h0:(bN c).2.2=0):OL c=(Ej c.aB c.az).map fun t=>(t,bX c.aB c.az t):=by
 unfold OL;rw[rA (nu.up h0).1]
 congr 1
 rw[List.filter_eq_self];intro t _;exact Fy _ _
theorem ON{c:bG}(h0:(bN c).2.2=0){p:bm×List Bool}(hp:p∈OL c):ld c p.1/\p.2=bX c.aB c.az p.1/\p.2.length=c.aB.night.toNat:=by
 rw[OM h0]at hp;obtain⟨t,ht,rfl⟩:=List.mem_map.1 hp;exact⟨uM.1 ht,rfl,by simp only[bX,jr]⟩
theorem AG{lit:List Bool}:∀ {l:List dW} {i:Int},(jZ lit l i).length<=l.length
 | [],_=>Nat.le_refl _
 | s::r,i=>by
  rw[jZ];have:=AG (lit:=lit) (l:=r) (i:=i+1);split<;>simp<;>omega
set_option maxHeartbeats 1000000 in
theorem Oo(c:bG)(h0:(bN c).2.2=0):Yields Tryz.prog 136 [.ref c.cells] ((yi c).map fun l=>([.d (aV l)],[])):=by
 intro γ Y g0 Q hit;have hR:=ed h0;have hn:=hR.aB.night;refine ez mixed av Tryz.func136 rfl (ft:=QT) (args:=[.yld,.d (.ref c.cells)]) (show oQ QT Tryz.f136 2=true from by decide +kernel) ?_;replace hit:=hit.np;conv=>whnf
 refine ax (PQ c.aB hR.aB) rfl rfl ?_;conv=>whnf
 refine ax (TJ c.aB c.az 139 []) rfl rfl ?_;conv=>whnf
 unfold yi at hit;refine gl av (by exact aj mixed av (by decide +kernel)) (by exact aj mixed av (by decide +kernel)) rfl 1500000 1600000 [2] (by exact fun {γ}=>wD hR.aB hR.p8 hR.Yz (nu.up h0).2 (fun s b _=>abv s b))
  (fun(g:γ)=>([(1500000,.box (.vv [.yld]))],g))
  (fun(rest:List (bm×List Bool)) (g:γ)=>iterate Y.np ((rest.map fun p=>jZ p.2 c.bW 0).map fun l=>([.d (aV l)],[])) g Q /\ ∀ p∈rest,p.2.length=c.aB.night.toNat) g0 rfl rfl rfl ⟨hit,fun p hp=>(ON h0 hp).2.2⟩ ?_ ?_
 ·clear hit
  rintro ⟨t,lit⟩ rest g ⟨hit,hl⟩ Q' xD YQ;refine⟨⟨rfl,rfl⟩,?_⟩;have wV:=hl (t,lit) (by simp);simp only at wV;rw[List.map_cons,List.map_cons]at hit;have hs8:=hR.bW;have hsg:=hR.N8;have dO:∀ p∈rest,p.2.length=c.aB.night.toNat:=fun p hp=>hl p (by simp[hp]);conv=>whnf
  refine bB (T:=tys) av (by exact aj mixed av (by decide +kernel)) c.bW (fun i (acc:List Int)=>⟨[(1,.d (.ref c.cells)),(2,.ptr 1500000 0),(3,.ptr 3 0),(4,.sl 34 1 0 acc.length),(15,.d (pJ c.bW)),(16,.d (i64 c.bW.length)),(17,.d (i64 i))],[(1500000,.box (.vv [.yld])),(3,.box (.dd [i64 t.start,aV t.aW,dj lit])),(34,.arr 1 (.dd (acc.map fun n=>[i64 n])))],g⟩)
   (fun i r acc=>jZ lit c.bW 0=acc++jZ lit r i/\acc.length<=i /\ ∀ s∈r,s∈c.bW) [] ((Wk.born 4 34 1 rfl rfl rfl).trans aw) ⟨rfl,⟨by simp,fun s h=>h⟩⟩ ?_ ?_
  ·intro i s r acc hx hi hr ⟨he,AV,mN⟩
   rw[jZ]at he;obtain⟨qc,mM⟩:=hsg s (mN s (by simp));have zj:s.second.toNat<lit.length:=by omega
   obtain⟨b,hb⟩:∃ b,lit[s.second.toNat]?=some b:=⟨_,List.getElem?_eq_getElem zj⟩;have hg:lit.getD s.second.toNat false=b:=by simp[List.getD_eq_getElem?_getD,hb]
   rw[hg]at he;conv=>whnf
   refine ag (fun _=>?_) (fun h=>absurd hi (by simpa using h));conv=>whnf
   refine aG hx ?_;conv=>whnf
   refine aU [.bool b] ⟨qc,by simp[hb]⟩ ?_;conv=>whnf
   by_cases ME:b=s.lit
   ·rw[if_pos ME]at he
    rw[show(!b ==s.lit)=false from by rw[ME];cases s.lit<;>rfl];conv=>whnf
    refine ae ?_;conv=>whnf
    exact⟨acc,⟨he,by omega,fun s hs=>mN s (by simp[hs])⟩,aw⟩
   ·rw[if_neg ME]at he
    rw[show(!b ==s.lit)=true from by cases b<;>cases S1:s.lit<;>simp_all];conv=>whnf
    refine ak rfl ?_;conv=>whnf
    refine ak (by simp[bx.len]) ?_;conv=>whnf
    refine aM (decide_eq_true (by
     show((acc.map fun n=>[i64 n]).length+1)*8<=140737488355328;rw[List.length_map];omega)) ?_
    conv=>whnf
    refine ae ?_;conv=>whnf
    refine⟨acc ++ [(i:Int)],⟨by rw[he];simp,by simp;omega,fun s hs=>mN s (by simp[hs])⟩,Wk.sub ⟨rfl,rfl,rfl,?_,rfl,rfl,rfl,trivial⟩ ⟨rfl,rfl,?_,trivial⟩⟩
    ·simp[PX.get,bx.len]
    ·simp[PX.get,bx.app]
  intro acc ⟨he,AV,_⟩;rw[jZ,List.append_nil]at he;rw[he]at hit;conv=>whnf
  refine ag (fun h=>absurd h (by simp)) (fun _=>?_);conv=>whnf
  refine Ef 1 [34] (ds:=[aV acc]) (aC (cH rfl (by simp)) rfl) rfl ?_;refine LA (ds:=[aV acc]) hit rfl rfl (fun g1 hi=>?_) (fun g1 hq=>?_)
  ·conv=>whnf
   exact⟨g1,aw,rfl,xD _ ⟨hi,dO⟩⟩
  ·conv=>whnf
   exact⟨[(1500000,.box (.vv [.yld]))],g1,aw,rfl,YQ _ _ _ (aO 0 rfl ⟨rfl,hq⟩)⟩
 ·rintro g ⟨hit,_⟩
  conv=>whnf
  exact aO 0 rfl ⟨rfl,hit⟩
def Ig(c:bG):List Int:=match Dk (yi c) with
 | none=>[]
 | some l=>l
def wA(c:bG):List Int:=if (bN c).2.2=0 then Ig c else []
theorem abi(c:bG):bq Tryz.prog 78 [c.d] (.tup [aV (wA c),i64 (bN c).2.2]):=by
 refine aY Tryz.func78 rfl (ft:=aab) 1 fun {σ} Y st=>?_;conv=>whnf
 refine af (Ni c) rfl rfl ?_;conv=>whnf
 by_cases h0:(bN c).2.2=0;case neg=>
  have hv:wA c = []:=by unfold wA;rw[if_neg h0]
  rw[hv];refine ag (fun _=>?_) (fun h1=>absurd h1 (by simp[h0]));conv=>whnf
  exact dC 0 rfl rfl ⟨⟨rfl,rfl⟩,rfl⟩
 have hR:=ed h0;have hv:wA c=Ig c:=by unfold wA;rw[if_pos h0]
 rw[hv];refine ag (fun h1=>absurd h1 (by simp[h0])) (fun _=>?_);conv=>whnf
 refine gX (abw (fun {γ}=>Oo c h0) ?_) 2 [1] rfl rfl ?_
 ·intro l hl
  obtain⟨p,_,rfl⟩:=List.mem_map.1 hl;have:=AG (lit:=p.2) (l:=c.bW) (i:=0);have:=hR.bW;omega
 unfold Ig
 cases hL:Dk (yi c) with
 | none=>
  conv=>whnf
  rw[h0];exact dC 0 rfl rfl ⟨⟨rfl,rfl⟩,rfl⟩
 | some l=>
  conv=>whnf
  rw[h0];exact ai
structure ab where
 fl:Bool
 k:Int
 long:Int
 first:Bool
 deriving DecidableEq
def pL(fl:Bool)(k:Int):D:=.ifc (if fl then 321 else 326) (i64 k)
def ab.cells(x:ab):List D:=[pL x.fl x.k,i64 x.long,.bool x.first]
def ab.d(x:ab):D:=.agg x.cells
theorem HX(a b:Bool)(k j:Int):kV (pL a k) (pL b j)=some (decide (a=b)&&decide (k=j)):=by
 cases a<;>cases b<;>simp[pL,kV,u1,i64]
theorem N6(a b:Int):kV (i64 a) (i64 b)=some (decide (a=b)):=by simp[kV,i64]
theorem KW(a b:Bool):kV (.bool a) (.bool b)=some (a ==b):=rfl
theorem cn(x y:ab):fC x.d y.d=some (decide (x=y)):=by
 show dx x.cells y.cells=_;simp only[ab.cells,dx,HX,N6,KW];cases x;cases y
 congr 1
 rw[Bool.eq_iff_iff];simp[and_assoc]
def lB(l:List cu)(x:ab):Span:=match l[x.k.toNat]? with
 | some p=>if x.fl then p.ia else p.mA
 | none=>⟨0,0⟩
theorem I6(l:List cu)(k:Int)(p:cu)(hk:0<=k)(hp:l[k.toNat]?=some p):bq Tryz.prog 269 [i64 k,dQ l] p.ia.d:=by
 refine aY Tryz.func269 rfl (ft:=VY) 2 fun {σ} Y st=>?_;conv=>whnf
 refine aU p.cells ⟨hk,by simp[hp]⟩ ?_;conv=>whnf
 exact ai
theorem I7(l:List cu)(k:Int)(p:cu)(hk:0<=k)(hp:l[k.toNat]?=some p):bq Tryz.prog 270 [i64 k,dQ l] p.mA.d:=by
 refine aY Tryz.func270 rfl (ft:=VZ) 2 fun {σ} Y st=>?_;conv=>whnf
 refine aU p.cells ⟨hk,by simp[hp]⟩ ?_;conv=>whnf
 exact ai
theorem I5(fl:Bool)(k many:Int)(hk:0<=k/\k<=1000)(hm:1<=many/\many<=1000):bq Tryz.prog 194 [pL fl k,i64 many] (pL (!fl) (if fl then k else (k+1)%many)):=by
 cases fl with
 | true=>
  refine aY Tryz.func194 rfl (ft:=Q1) 2 fun {σ} Y st=>?_;conv=>whnf
  exact ai
 | false=>
  refine aY Tryz.func194 rfl (ft:=Q1) 2 fun {σ} Y st=>?_;conv=>whnf
  refine ae ?_;conv=>whnf
  refine aM (by simp;omega) ?_;conv=>whnf
  refine aO 0 rfl ⟨⟨?_,rfl⟩,rfl⟩;have e:(k+1).tmod many=(k+1)%many:=Int.tmod_eq_emod_of_nonneg (by omega);simp[j9,e,pL,i64]
def jJ(many:Int)(x:ab):ab:=⟨!x.fl,if x.fl then x.k else (x.k+1)%many,1,false⟩
def gq(l:List cu)(ch:Bool)(x:ab):Option ab:=
 if ch&&(!x.first&&decide (x.long<(lB l x).lo)) then none
 else if (if ch then jJ l.length x else ⟨x.fl,x.k,x.long+1,x.first⟩).long<=(lB l (if ch then jJ l.length x else ⟨x.fl,x.k,x.long+1,x.first⟩)).hi then some (if ch then jJ l.length x else ⟨x.fl,x.k,x.long+1,x.first⟩) else none
def qP(b:Bool)(n:Nat):List ab:=(List.range n).map fun(k:Nat)=>⟨b,k,1,true⟩
def mG(l:List cu):List Bool->Bool->List ab->Int->Int
 | [],_,_,_=>-1
 | b::r,prev,A,s=>if A.filterMap (gq l (b !=prev)) = [] then s else mG l r b (A.filterMap (gq l (b !=prev))) (s+1)
def fD(lit:List Bool)(l:List cu):Int:=match lit with
 | []=>-1
 | b::r=>mG l r b (qP b l.length) 1
abbrev Ms:=List (ab×Int)
def fy(m:Ms)(y:ab):Ms:=rk m y ((getM m y).getD 0+1)
structure UI(m:Ms)(n:Nat):Prop where
 len:m.length<=n
 bd:∀ y v,getM m y=some v->0<=v/\v<=n
theorem UI.inc{m:Ms}{n:Nat}(h:UI m n)(y:ab):UI (fy m y) (n+1):=by
 refine⟨Nat.le_trans (NS _ _ _) (by have:=h.len;omega),fun u v hv=>?_⟩;unfold fy at hv;rw[EL]at hv;split at hv
 ·cases hv
  cases hg:getM m y with
  | none=>simp;omega
  | some z=>have:=h.bd y z hg;simp;omega
 ·have:=h.bd u v hv;omega
theorem zp{m:Ms}{y u:ab}:(getM (fy m y) u).isSome=true↔u=y\/(getM m u).isSome=true:=by
 unfold fy;rw[EL];by_cases h:u=y
 ·simp[h]
 ·simp[h]
end Go.PX
namespace Go.PX
open Go.RowKit
def GO:List Bool->List Bool->Bool
 | [],[]=>true
 | a::r,b::s=>(match a,b with
  | true,true=>true
  | false,false=>true
  | _,_=>false)&&GO r s
 | _,_=>false
theorem EC:∀ {a b:List Bool},GO a b=true↔a=b
 | [],[]=>by simp[GO]
 | [],_::_=>by simp[GO]
 | _::_,[]=>by simp[GO]
 | a::r,b::s=>by
  have:=EC (a:=r) (b:=s);cases a<;>cases b<;>simp[GO,this]
def Nc(l:List (List Bool))(a:List Bool):Bool:=match l with
 | []=>false
 | b::r=>GO a b||Nc r a
def LB(l:List (List Bool))(a:List Bool):List (List Bool):=match Nc l a with
 | true=>l
 | false=>a::l
def CG:List (List Bool)->List (List Bool)->List (List Bool)
 | l,[]=>l
 | l,a::r=>CG (LB l a) r
def Fc:∀ {l:List (List Bool)} {a:List Bool},Nc l a=true->a∈l
 | [],a,h=>by simp[Nc]at h
 | b::r,a,h=>by
  simp only[Nc,Bool.or_eq_true]at h;rcases h with h|h
  ·rw[EC.1 h];simp
  ·exact List.mem_cons_of_mem _ (Fc h)
theorem BW{l:List (List Bool)}{a b:List Bool}(h:b∈l\/b=a):b∈LB l a:=by
 unfold LB;split
 ·rename_i hi
  rcases h with h|rfl
  ·exact h
  ·exact Fc hi
 ·rcases h with h|rfl
  ·exact List.mem_cons_of_mem _ h
  ·simp
theorem zK:∀ {r l:List (List Bool)} {b:List Bool},b∈l\/b∈r->b∈CG l r
 | [],l,b,h=>by
  rcases h with h|h
  ·exact h
  ·cases h
 | a::r,l,b,h=>by
  rw[CG];refine zK ?_;rcases h with h|h
  ·exact .inl (BW (.inl h))
  ·rcases List.mem_cons.1 h with rfl|h
   ·exact .inl (BW (.inr rfl))
   ·exact .inr h
def tg(eo:List (List Nat)):Nat->List (List Bool)
 | 0=>[eo.map fun _=>false]
 | k+1=>CG [] ((tg eo k).flatMap fun ls=>(lu ls 0 eo ls).map (wi ls))
def Dz(eo:List (List Nat)):Nat->List (List Bool×Nat)
 | 0=>[]
 | k+1=>Dz eo k++(tg eo k).flatMap fun ls=>(lu ls 0 eo ls).map fun i=>(ls,i)
theorem zL{eo:List (List Nat)}:∀ {n k:Nat} {ls:List Bool} {i:Nat},k<n->ls∈tg eo k->i∈lu ls 0 eo ls->(ls,i)∈Dz eo n
 | 0,k,_,_,h,_,_=>by omega
 | n+1,k,ls,i,h,h1,h2=>by
  rw[Dz,List.mem_append];by_cases hk:k=n
  ·subst hk
   right;exact List.mem_flatMap.2 ⟨ls,h1,List.mem_map.2 ⟨i,h2,rfl⟩⟩
  ·exact .inl (zL (by omega) h1 h2)
noncomputable def R2{α:Type}(l:List α)(f:α->Prop):Prop:=
 List.rec (motive:=fun _=>Prop) True (fun a _ ih=>f a/\ih) l
theorem Eh{α:Type}{f:α->Prop}:∀ {l:List α},R2 l f -> ∀ a∈l,f a
 | [],_,a,h=>by cases h
 | b::r,h,a,ha=>by
  obtain⟨h1,h2⟩:=(show f b/\R2 r f from h);rcases List.mem_cons.1 ha with rfl|ha
  ·exact h1
  ·exact Eh h2 a ha
section
variable {P : Program} {T : fA} {σ : Type} {Y : Hd σ} {cx : Cx σ} {r : Option Nat} {m : List Nat}
theorem Gq(hT:bA P T)(hY:cC P Y cx){ops:Array Oper}{eo:List (List Nat)}(ur:pE 0 ops.toList=true)(MH:pc ops.toList eo=true){F0:Nat->Nat}{w0:World}{n0:Nat}(hd:∀ o∈ops.toList,∀ d,o.dst=some d->d<n0){K:Env->Heap->σ->Prop}{I:List Bool->Env×Heap}{s:σ}
  {N:Nat} (hk:∀ (k:Nat) (ls:List Bool),k<N->ls∈tg eo k -> ∀ i∈lu ls 0 eo ls,DH P T Y ops.toList ops.toList[i]? (I ls).1 (I ls).2 s fun e h s'=>Wk (⟨e,h,s'⟩:St σ) ⟨(I (wi ls i)).1,(I (wi ls i)).2,s⟩)
  (fo:∀ ls,AL ls=0->ls.length=ops.size->K (I ls).1 (I ls).2 s) :
  ∀ (n:Nat) {ls:List Bool} {k:Nat} {L:Loc} {F:Nat->Nat} {a:Act} {w:World},n+k=N->ls∈tg eo k->ls.length=ops.size->AL ls=n->Good cx r m L F ⟨(I ls).1,(I ls).2,s⟩ a w->a.tmps.size=n0->Tr F0 w0 F w ->
   wpAnyIn (fr r) 0 P .any ops (mu Y cx r m F0 w0 n0 K) n ls.toArray a w:=by
 obtain⟨BK,JY⟩:=kH MH;have BK:ops.size=eo.length:=by simpa using BK
 intro n
 induction n with
 | zero=>
  intro ls k L F a w Lj MQ hl hu hg hs tr;refine⟨?_,.inl ⟨(I ls).1,(I ls).2,s,L,F,rfl,fo ls hu hl,hg,tr,hs⟩⟩
  cases hr:Region.ready .any ops ls.toArray with
  | nil=>rfl
  | cons i _=>
   have:i∈Region.ready .any ops ls.toArray:=by rw[hr];exact List.mem_cons_self ..
   have:=iG.1 (mem_ready.1 this).1;exact absurd this (AA hu i)
 | succ n ih=>
  intro ls k L F a w Lj MQ hl hu hg hs tr;refine⟨fun hr=>?_,fun i hi=>?_⟩
  ·exfalso
   obtain⟨i,h1,h2⟩:=DM (ls:=ls) (by omega);have S0:i<ops.size:=by rw[<- hl];exact(List.getElem?_eq_some_iff.1 h1).1
   have:i∈Region.ready .any ops ls.toArray:=by
    rw[mem_ready];refine⟨iG.2 h1,ops[i],Array.getElem?_eq_getElem S0,fun e he hb=>?_⟩;have dh:=kN ur i ops[i] (by simp) e he hb;exact kB.2 (h2 e.on (by omega))
   rw[hr]at this;cases this
  ·obtain⟨C5,oj,J6,vE⟩:=mem_ready.1 hi
   have S0:i<ops.size:=(Array.getElem?_eq_some_iff.1 J6).1;have WQ:=iG.1 C5;have Wu:eo[i]?=some (eo[i]'(by omega)):=List.getElem?_eq_getElem _;have W7:i∈lu ls 0 eo ls:=by
    have:=tj (ls:=ls) (ds:=eo) (bs:=ls) (k:=0) (i:=i) Wu WQ (sQ fun j hj=>by
     obtain⟨e,he,hb,rfl⟩:=JY i oj _ (by simpa using J6) Wu j hj;have:=vE e he hb;rw[td];have:=kB.1 this;rw[Array.getD_eq_getD_getElem?];simp[this])
    simpa using this
   have J2:=hk k ls (by omega) MQ i W7;have Pm:ops.toList[i]?=some oj:=by simpa using J6
   rw[Pm]at J2;obtain⟨dst,op,ty,pos,after,guard⟩:=oj;refine tG hT hY J6 hg (fun d SP=>by rw[hs];exact hd _ (List.mem_of_getElem? Pm) d SP) J2 (fun e' h' s' L' F' a' w' dN Tk pN nq=>?_) fun e' a' w' hp=>.inr (hp.trans tr hs);have jP:ls.toArray.setIfInBounds i true=(wi ls i).toArray:=by rw[pH];simp
   rw[jP];obtain⟨L2,F2,iK,AK⟩:=nq cx r m L' F' a' w' dN;refine ih (k:=k+1) (by omega) ?_ (by rw[pH];simpa using hl) ?_ iK (Tk.trans hs) (Tr.trans tr (Tr.trans pN AK))
   ·rw[tg]
    exact zK (.inr (List.mem_flatMap.2 ⟨ls,MQ,List.mem_map.2 ⟨i,W7,rfl⟩⟩))
   ·rw[pH]
    have:=DN WQ;omega
variable {ft : FT}
theorem dB(hm:P.follows .mixedOrders=true)(hT:bA P T)(eo:List (List Nat))(I:List Bool->Env×Heap){id:Nat}{ops:Array Oper}(ja:(pE 0 ops.toList&&pc ops.toList eo)=true){e:Env}{h:Heap}{s:σ}{K:fu->St σ->Prop}
  (h0:Wk (⟨e,h,s⟩:St σ) ⟨(I (eo.map fun _=>false)).1,(I (eo.map fun _=>false)).2,s⟩)
  (hk:R2 (Dz eo eo.length) fun p=>DH P T Y ops.toList ops.toList[p.2]? (I p.1).1 (I p.1).2 s fun e h s'=>Wk (⟨e,h,s'⟩:St σ) ⟨(I (wi p.1 p.2)).1,(I (wi p.1 p.2)).2,s⟩)
  (fo:K .normal ⟨bh ft.ks (I (eo.map fun _=>true)).1,(I (eo.map fun _=>true)).2,s⟩):tP P ft Y id ops ⟨e,h,s⟩ K:=by
 refine⟨fun cx hY r m L F a w hg hc=>?_⟩;rw[Bool.and_eq_true]at ja;obtain⟨BK,_⟩:=kH ja.2;have BK:ops.size=eo.length:=by simpa using BK
 obtain⟨L0,F0,MK,QA⟩:=h0 cx r m L F a w hg;refine wpIn_mono (wpIn_region_any (id:=id) (Q:=mu Y cx r m F w a.tmps.size (fun e h s'=>e=(I (eo.map fun _=>true)).1/\h=(I (eo.map fun _=>true)).2/\s'=s)) hm ?_) fun ex a' w' hq=>?_
 ·have qL:Array.replicate ops.size false=(eo.map fun _=>false).toArray:=by
   rw[BK];have:∀ l:List (List Nat),(l.map fun _=>false)=List.replicate l.length false:=by
    intro l
    induction l with
    | nil=>rfl
    | cons x r ih=>rw[List.map_cons,ih];rfl
   rw[this];simp
  have Tx:∀ l:List (List Nat),AL (l.map fun _=>false)=l.length:=by
   intro l
   induction l with
   | nil=>rfl
   | cons x r ih=>simp[AL,ih]
  have cR:∀ (ds:List (List Nat)) (ls:List Bool),AL ls=0->ls.length=ds.length->ls=ds.map fun _=>true:=by
   intro ds
   induction ds with
   | nil=>intro ls _ h;exact List.length_eq_zero_iff.1 h
   | cons d ds ih=>
    intro ls hu h
    cases ls with
    | nil=>simp at h
    | cons b ls=>
     cases b with
     | false=>simp[AL]at hu
     | true=>rw[List.map_cons,<- ih ls (by simpa[AL]using hu) (by simpa using h)]
  rw[qL,BK];refine Gq (I:=I) (s:=s) (N:=eo.length) hT hY ja.1 ja.2 (oH hc) (fun k ls j8 MQ i hi=>Eh hk (ls,i) (zL j8 MQ hi)) (fun ls hu hl=>?_) eo.length (k:=0) rfl (by simp[tg]) (by simp[BK]) (Tx eo) (MK.same (w':={ w with drawn:=w.drawn+1 }) rfl rfl rfl rfl) rfl (Tr.trans QA (Tr.drew _));rw[cR eo ls hu (by rw[hl,BK])];exact⟨rfl,rfl,rfl⟩
 ·rcases hq with⟨e',h',s',L',F',hex,⟨rfl,rfl,rfl⟩,dN,tr,hs⟩|hp
  case inr=>exact .inr hp
  exact .inl ⟨.normal,_,m,L',F',hex,fo,dN.sub (eC ft.ks _) (fun _ _ h=>h),tr,hs⟩
end
end Go.PX
namespace Go.PX
open Go.Proofs
def rz:List Bool->List (Option (Nat×V))->Env
 | true::ls,some p::r=>p::rz ls r
 | true::ls,none::r=>rz ls r
 | false::ls,_::r=>rz ls r
 | _,_=>[]
def u3(ls:List Bool)(a b:Nat)(x y z:List (D×D)):List (D×D):=
 match isTrue ls b with
 | true=>z
 | false=>match isTrue ls a with
  | true=>y
  | false=>x
def Oq(l:List cu)(ch:Bool)(m:Ms)(todo:List Nat)(next:Ms):Prop:=
 ∀ y,(getM next y).isSome=true ↔ ∃ j x v,j∉todo/\m[j]?=some (x,v)/\gq l ch x=some y
theorem ir{todo:List Nat}{i j:Nat}:j∉(todo.filter fun k=>!Nat.beq k i)↔j∉todo\/j=i:=by
 rw[List.mem_filter];have:(!Nat.beq j i)=true↔j≠i:=by
  rw[Bool.not_eq_true',Bool.eq_false_iff];exact⟨fun h e=>h (by subst e;simp),fun h e=>h (Nat.eq_of_beq_eq_true e)⟩
 rw[this];by_cases h:j=i<;>simp[h]
theorem Oq.none{l:List cu}{ch:Bool}{m:Ms}{todo:List Nat}{next:Ms}(h:Oq l ch m todo next){i:Nat}{x:ab}{v:Int}(hi:m[i]?=some (x,v))(hs:gq l ch x=none):Oq l ch m (todo.filter fun k=>!Nat.beq k i) next:=by
 intro y;rw[h y];constructor
 ·rintro ⟨j,x',v',h1,h2,h3⟩
  exact⟨j,x',v',ir.2 (.inl h1),h2,h3⟩
 ·rintro ⟨j,x',v',h1,h2,h3⟩
  rcases ir.1 h1 with h1|rfl
  ·exact⟨j,x',v',h1,h2,h3⟩
  ·rw[hi]at h2;cases h2
   rw[hs]at h3;cases h3
theorem Oq.some{l:List cu}{ch:Bool}{m:Ms}{todo:List Nat}{next:Ms}(h:Oq l ch m todo next){i:Nat}{x y0:ab}{v:Int}(hi:m[i]?=some (x,v))(hs:gq l ch x=some y0):Oq l ch m (todo.filter fun k=>!Nat.beq k i) (fy next y0):=by
 intro y;rw[zp,h y];constructor
 ·rintro (rfl|⟨j,x',v',h1,h2,h3⟩)
  ·exact⟨i,x,v,ir.2 (.inr rfl),hi,hs⟩
  ·exact⟨j,x',v',ir.2 (.inl h1),h2,h3⟩
 ·rintro ⟨j,x',v',h1,h2,h3⟩
  rcases ir.1 h1 with h1|rfl
  ·exact .inr ⟨j,x',v',h1,h2,h3⟩
  ·rw[hi]at h2;cases h2
   rw[hs]at h3;cases h3;exact .inl rfl
def ym(m:Ms)(A:List ab):Prop:=∀ y,(getM m y).isSome=true↔y∈A
theorem Oq.fin{l:List cu}{ch:Bool}{m:Ms}{next:Ms}{A:List ab}(hm:ym m A)(h:Oq l ch m [] next):ym next (A.filterMap (gq l ch)):=by
 intro y;rw[h y,List.mem_filterMap];constructor
 ·rintro ⟨j,x,v,_,h2,h3⟩
  exact⟨x,(hm x).1 (nE.2 (List.mem_map.2 ⟨(x,v),List.mem_of_getElem? h2,rfl⟩)),h3⟩
 ·rintro ⟨x,hx,h3⟩
  have h4:=nE.1 ((hm x).2 hx);obtain⟨⟨x',v⟩,h5,rfl⟩:=List.mem_map.1 h4;obtain⟨j,h6⟩:=List.mem_iff_getElem?.1 h5;exact⟨j,x',v,by simp,h6,h3⟩
theorem ym.empty{m:Ms}{A:List ab}(hm:ym m A):m.length=0↔A = []:=by
 rw[List.length_eq_zero_iff];constructor
 ·rintro rfl
  rw[List.eq_nil_iff_forall_not_mem];intro y hy;have:=(hm y).2 hy;simp[getM]at this
 ·rintro rfl
  cases m with
  | nil=>rfl
  | cons p r=>
   have:=(hm p.1).1 (nE.2 (by simp));cases this
theorem ym.get{m:Ms}{A:List ab}(hm:ym m A){i:Nat}{x:ab}{v:Int}(h:m[i]?=some (x,v)):x∈A:=
 (hm x).1 (nE.2 (List.mem_map.2 ⟨(x,v),List.mem_of_getElem? h,rfl⟩))
theorem GP{todo:List Nat}{i:Nat}(h:i∈todo):(todo.filter fun k=>!Nat.beq k i).length<todo.length:=by
 rcases Nat.lt_or_ge (todo.filter fun k=>!Nat.beq k i).length todo.length with h1|h1
 ·exact h1
 ·exfalso
  have h2:=(List.filter_sublist (l:=todo) (p:=fun k=>!Nat.beq k i)).eq_of_length_le h1;have:i∈todo.filter fun k=>!Nat.beq k i:=by rw[h2];exact h
  rw[List.mem_filter]at this;simp at this
theorem PH{m:Ms}{i:Nat}{kv:D×D}(h:(bO ab.d m)[i]?=some kv):∃ x v,m[i]?=some (x,v)/\kv=(x.d,i64 v):=by
 unfold bO at h;rw[List.getElem?_map,Option.map_eq_some_iff]at h;obtain⟨⟨x,v⟩,h1,h2⟩:=h;exact⟨x,v,h1,h2.symm⟩
structure YB(l:List cu)(n:Int)(x:ab):Prop where
 k:0<=x.k/\x.k<l.length
 long:1<=x.long/\x.long<=n
theorem Qx{l:List cu}{n:Int}(hp:1<=l.length){ch:Bool}{x y:ab}(hn:1<=n)(h:YB l n x)(hs:gq l ch x=some y):YB l (n+1) y:=by
 have hk:=h.k;have hl:=h.long;have hy:y=if ch then jJ l.length x else ⟨x.fl,x.k,x.long+1,x.first⟩:=by
  unfold gq at hs;by_cases h1:(ch&&(!x.first&&decide (x.long<(lB l x).lo)))=true
  ·rw[if_pos h1]at hs;cases hs
  ·rw[if_neg h1]at hs
   by_cases h2:(if ch then jJ l.length x else ⟨x.fl,x.k,x.long+1,x.first⟩).long<=(lB l (if ch then jJ l.length x else ⟨x.fl,x.k,x.long+1,x.first⟩)).hi
   ·rw[if_pos h2]at hs;exact(Option.some.inj hs).symm
   ·rw[if_neg h2]at hs;cases hs
 subst hy
 cases ch with
 | true=>
  simp only[if_true,jJ];constructor
  ·simp only
   split
   ·exact hk
   ·exact⟨Int.emod_nonneg _ (by omega),Int.emod_lt_of_pos _ (by omega)⟩
  ·simp only;omega
 | false=>exact⟨hk,by show 1<=x.long+1/\x.long+1<=n+1;omega⟩
theorem PB{l:List cu}{b:Bool}:∀ x∈qP b l.length,YB l 1 x:=by
 intro x hx;obtain⟨k,hk,rfl⟩:=List.mem_map.1 hx;have:=List.mem_range.1 hk;exact⟨by simp only;omega,by simp only;omega⟩
end Go.PX
