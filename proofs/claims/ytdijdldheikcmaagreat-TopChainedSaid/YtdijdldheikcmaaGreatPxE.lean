import Derived.Test.YtdijdldheikcmaaGreatPxD
import Derived.Laws.MakeOwn
set_option linter.all false
namespace Go.PX
open Go.RowKit
section
variable {P : Program} {T : dJ} {e : Env} {h : ar} {dst : Option Nat} {K : List Wr -> Prop} {ty : TypeId} {pos : String} {after : Array Edge} {guard : Option (Nat × Bool)}
theorem Dj(hT:aY P T){t:TypeId}{x:Operand}(hk:eS T e h dst (.range t x) K):∃ ws,K ws/\Out P e h ⟨dst,.range t x,ty,pos,after,guard⟩ ws:=by
 simp only[eS]at hk;split at hk;case h_3=>exact hk.elim
 case h_2=>
  rename_i ti id d ht hx;split at hk;case h_2=>exact hk.elim
  rename_i mk me bT da eb;obtain⟨eX,hk⟩:=bw hk;have eX:id≠d:=by rintro rfl;simp at eX
  obtain⟨de,fq,dv⟩:=dC hT ht;rw[da]at dv;have:=pZ dv.symm;subst this;refine⟨_,hk,?_⟩;intro σ cx r m L F st a w he hh hg hd;have cF:a.eval x = .map (some (L.ρ id)):=hg.aD (az he hx);obtain⟨en,c,hb,hr,oJ⟩:=hg.heap.obj id _ (hh _ _ eb);have hl:c=bT.length:=by rw[oJ.1];simpa using bs.get hr
  have tr:Tr F w F (w.alloc (.mapIter (some (L.ρ id)) c #[] c)):=Tr.alloc hg.heap.fresh _;have pV:=hg.new d 0 (.mit (.mp id) bT.length (List.range bT.length) none) (.mapIter (some (L.ρ id)) c #[] c) (hg.dH (hd d rfl))
   ⟨L.ρ id,#[],by show Value.map (some _) = .map (some _);simp[eX],by show(w.alloc _).heap[if d=d then w.heap.size else L.ρ d]?=_;rw[if_pos rfl,heap_alloc_new w _,hl],(fun i=>by simp),fun i e=>by cases e⟩
  refine⟨.pointer (some ⟨w.heap.size,0,none⟩),_,_,?_,.inl rfl,_,F,pV.set (v:=.it d) (hd d rfl) (by show Value.pointer _=Value.pointer _;simp),tr⟩;simp[execOp,cF,Instr.range,run_underlying fq,getObj,Sem.run,hb]
 rename_i ti s d ht hx;split at hk;case h_2=>exact hk.elim
 rename_i da;obtain⟨de,fq,dv⟩:=dC hT ht;rw[da]at dv;have:=gJ dv.symm;subst this;refine⟨_,hk,?_⟩;intro σ cx r m L F st a w he hh hg hd;have cF:=jx hg he hx;have tr:Tr F w F (w.alloc (.stringIter s 0)):=Tr.alloc hg.heap.fresh _;have pV:=hg.new d 0 (.iter s 0) (.stringIter s 0) (hg.dH (hd d rfl)) (by show(w.alloc _).heap[if d=d then w.heap.size else L.ρ d]?=_;rw[if_pos rfl];exact heap_alloc_new w _);refine⟨.pointer (some ⟨w.heap.size,0,none⟩),_,_,?_,.inl rfl,_,F,pV.set (v:=.it d) (hd d rfl) (by show Value.pointer _=Value.pointer _;simp),tr⟩;simp[execOp,cF,Instr.range,run_underlying fq]
theorem E8{σ:Type}{cx:Cx σ}{r:Option Nat}{m:List Nat}{L:Loc}{F:Nat->Nat}{st:St σ}{a:Act}{w:World}(hg:Good cx r m L F st a w){h:ar}(hh:cP h st.heap){v:V}{bT:List (D×D)}(xx:Hs h v=some bT){rb:Nat}(hv:aR cx.yv L F w v (.map (some rb))) :
  ∃ en c,w.heap[rb]?=some (.map en c)/\bs F w bT en.toList/\pk en c:=by
 unfold Hs at xx;split at xx;case h_2=>cases xx
 rename_i mm;split at xx;case h_2=>cases xx
 rename_i p8 Wl;cases xx;have hv:Value.map (some rb) = .map (some (L.ρ mm)):=hv;simp only[Value.map.injEq,Option.some.injEq]at hv;rw[hv];exact hg.heap.obj mm _ (hh _ _ Wl)
theorem Dg{x:Operand}(hk:eS T e h dst (.entry x) K):∃ ws,K ws/\Out P e h ⟨dst,.entry x,ty,pos,after,guard⟩ ws:=by
 simp only[eS]at hk;split at hk;case h_2=>exact hk.elim
 rename_i id hx;split at hk;case h_2=>exact hk.elim
 rename_i v n todo i eb;split at hk;case h_2=>exact hk.elim
 rename_i bT xx;obtain⟨hn,⟨k,u⟩,hi,hk⟩:=hk;refine⟨_,hk,a6 (v:=.d (.tup [k,u])) (o:=⟨dst,.entry x,ty,pos,after,guard⟩) fun cx r m L F st a w he hh hg=>?_⟩;have cF:a.eval x = .pointer (some ⟨L.ρ id,0,none⟩):=hg.aD (az he hx);obtain⟨rb,seen,hv,hb,_,SW⟩:=hg.heap.obj id _ (hh _ _ eb);obtain⟨en,c,hm,hr,oJ⟩:=E8 hg hh xx hv;have kV:=SW i rfl;have SU:c=n:=by
  rw[oJ.1,<- hn];simpa using bs.get hr
 have Gi:i<en.size:=by
  have:=(List.getElem?_eq_some_iff.1 hi).1;have h2:=bs.get hr;simp at h2;omega
 obtain⟨k',u',PK,ob,TP⟩:=bs.at hr (i:=i) (e:=en[i]) (by simp[Gi]);rw[hi]at PK;cases PK;have EI:en.find? (·.born ==i)=some en[i]:=by
  rw[Array.find?_eq_some_iff_getElem];have rE:=oJ.2 i _ (Array.getElem?_eq_getElem Gi);refine⟨by simp[rE],i,Gi,rfl,fun j hj=>?_⟩;have:=oJ.2 j _ (Array.getElem?_eq_getElem (by omega));simp[this];omega
 refine⟨.tuple #[en[i].key,en[i].val],?_,⟨_,rfl,_,_,rfl,ob,_,_,rfl,TP,rfl⟩⟩;simp[execOp,cF,Instr.entry,getObj,Sem.run,Sem.run_bind,hb,kV,hm,SU,EI]
theorem Ft{x:Operand}{b:Bool}(hk:eS T e h dst (.next x b) K):∃ ws,K ws/\Out P e h ⟨dst,.next x b,ty,pos,after,guard⟩ ws:=by
 simp only[eS]at hk;split at hk;case h_2=>exact hk.elim
 rename_i id hx;split at hk;case h_2=>exact hk.elim
 rename_i s p hs;rcases s8 hk with⟨hb,⟨hk⟩⟩|⟨hb,hk⟩
 ·have hb:=of_decide_eq_true hb
  refine⟨_,hk,?_⟩;intro σ cx r m L F st a w he hh hg hd;have cF:a.eval x = .pointer (some ⟨L.ρ id,0,none⟩):=hg.aD (az he hx);have h0:=hh _ _ hs;have rE:w.heap[L.ρ id]?=some (.stringIter s p):=hg.heap.obj id _ h0;have dN:=(Array.getElem?_eq_some_iff.1 rE).1;obtain⟨g1,g2⟩:=hg.obj (o:=.iter s (p+(Utf8.decode s p).2)) h0 trivial (w':={ w with heap:=w.heap.setIfInBounds (L.ρ id) (.stringIter s (p+(Utf8.decode s p).2)) }) rfl rfl rfl (by simp) (fun y hy=>by simp[Array.getElem?_setIfInBounds_ne (Ne.symm hy)])
   (by rw[rE];intro ds e;cases e) (by rw[rE];intro lp e;cases e) (by show _=_;simp[Array.getElem?_setIfInBounds,dN])
  refine⟨.tuple #[.bool true,.int .i64 p,.int .i32 (Utf8.decode s p).1],_,_,?_,.inl rfl,L,F,?_,g2⟩
  ·simp only[execOp,cF,Instr.next,getObj,setObj,Sem.run_bind,Sem.run,rE,Result.andThen]
   simp[hb,Sem.run,rE,goInt]
  ·cases dst with
   | none=>exact g1
   | some d=>exact g1.set (hd d rfl) ⟨_,rfl,⟨_,_,rfl,rfl,_,_,rfl,rfl,_,_,rfl,rfl,rfl⟩⟩
 ·have hb:=of_decide_eq_false hb
  refine⟨_,hk,a6 (o:=⟨dst,.next x true,ty,pos,after,guard⟩) fun cx r m L F st a w he hh hg=>?_⟩;have cF:a.eval x = .pointer (some ⟨L.ρ id,0,none⟩):=hg.aD (az he hx);have rE:w.heap[L.ρ id]?=some (.stringIter s p):=hg.heap.obj id _ (hh _ _ hs);refine⟨_,?_,⟨_,rfl,⟨_,_,rfl,rfl,rfl⟩⟩⟩;simp only[execOp,cF,Instr.next,getObj,Sem.run_bind,Sem.run,rE,Result.andThen];simp[hb,Sem.run]
theorem zw{t:TypeId}{x:Option Operand}(hk:eS T e h dst (.makeMap t x) K):∃ ws,K ws/\Out P e h ⟨dst,.makeMap t x,ty,pos,after,guard⟩ ws:=by
 simp only[eS]at hk;split at hk;case h_2=>exact hk.elim
 rename_i d;refine⟨_,hk,?_⟩;intro σ cx r m L F st a w he hh hg hd;have tr:Tr F w F (w.alloc (.map #[] 0)):=Tr.alloc hg.heap.fresh _;have pV:=hg.new d 0 (.map []) (.map #[] 0) (hg.dH (hd d rfl)) ⟨#[],0,by show(w.alloc _).heap[if d=d then w.heap.size else L.ρ d]?=_;rw[if_pos rfl];exact heap_alloc_new w _,rfl,rfl,by intro i e h;simp at h⟩;refine⟨.map (some w.heap.size),_,_,?_,.inl rfl,_,F,pV.set (v:=.mp d) (hd d rfl) (by show Value.map _=Value.map _;simp),tr⟩;simp[execOp,Instr.makeMap]
inductive Ip(P:Program)(T:dJ)(kt:TypeId)(k:D):Prop where
 | plain (dk:TypeDesc) (hk:P.underlying kt=some dk) (xu:(∃ k,dk = .int k)\/dk = .string\/dk = .bool) (qQ:p7 T kt (hO dk) k=true)
 | wide (dk:TypeDesc) (cs:List D) (n:Nat) (hk:P.underlying kt=some dk) (mF:∃ ti,T.get kt=some ti/\ti.isAgg=true) (xu:∀ x y,Instr.sameNow dk x y=none) (hc:k = .agg cs) (hf:flat T 9 kt=some n) (hl:cs.length=n) (hi:nK T 9 kt cs=true)
theorem sG(hT:aY P T){t kt:TypeId}{ki ei:nQ}(h:mapOf T t=some (kt,(ki,ei))):∃ el,P.underlying t=some (.map kt el)/\T.get kt=some ki/\T.get el=some ei:=by
 unfold mapOf at h;split at h;case h_2=>cases h
 rename_i ti ht;split at h;case h_2=>cases h
 rename_i kt el da;obtain⟨de,fq,dv⟩:=dC hT ht;rw[da]at dv;have:=pZ dv.symm;subst this;split at h;case h_2=>cases h
 rename_i XB Vr CV ic;cases h;exact⟨el,fq,CV,ic⟩
theorem xC(hT:aY P T){kt:TypeId}{ki:nQ}(CV:T.get kt=some ki){k:D}(h:p7 T kt ki.kd k=true):Ip P T kt k:=by
 obtain⟨i,dk,hi,xu,_,_,ji,mF,_⟩:=hT kt ki CV
 cases da:ki.kd with
 | int q=>
  have:=kY (ji.symm.trans da);subst this;exact .plain _ xu (.inl ⟨_,rfl⟩) (by rw[da]at h;exact h)
 | str=>
  have:=gJ (ji.symm.trans da);subst this;exact .plain _ xu (.inr (.inl rfl)) (by rw[da]at h;exact h)
 | bool=>
  have:=ny (ji.symm.trans da);subst this;exact .plain _ xu (.inr (.inr rfl)) (by rw[da]at h;exact h)
 | struct fs=>
  rw[da]at h;obtain⟨fa,rfl,_⟩:=gh (ji.symm.trans da);cases k<;>simp only[p7]at h<;>try (cases h;done)
  split at h;case h_2=>cases h
  rename_i n hn;simp only[Bool.and_eq_true]at h;exact .wide _ _ n xu ⟨ki,CV,mF⟩ (fun x y=>by cases x<;>cases y<;>rfl) rfl hn (cT h.1) h.2
 | array m e=>
  rw[da]at h;have:=er (ji.symm.trans da);subst this;cases k<;>simp only[p7]at h<;>try (cases h;done)
  split at h;case h_2=>cases h
  rename_i n hn;simp only[Bool.and_eq_true]at h;exact .wide _ _ n xu ⟨ki,CV,mF⟩ (fun x y=>by cases x<;>cases y<;>rfl) rfl hn (cT h.1) h.2
 | _=>rw[da]at h;cases k<;>simp only[p7]at h<;>cases h
theorem D3(a b:ByteArray):(a ==b)=decide (a=b):=by
 have h:(a ==b)=(a.data ==b.data):=by cases a;cases b;rfl
 rw[h];by_cases Ac:a=b
 ·subst Ac;simp
 ·have:a.data≠b.data:=fun e=>Ac (by cases a;cases b;simp only at e;rw[e])
  simp[Ac,this]
theorem HY{F:Nat->Nat}{w:World}{kt:TypeId}{dk:TypeDesc}(xu:(∃ k,dk = .int k)\/dk = .string\/dk = .bool){k:D}{x:Value}(hx:bq F w k x)(qQ:p7 T kt (hO dk) k=true)(k':D)(y:Value)(r:Bool)(h:gO k k'=some r)(hy:bq F w k' y):Instr.sameNow dk x y=some r:=by
 cases k<;>cases k'<;>simp only[gO]at h<;>try (cases h;done)
 ·cases hx;cases hy
  cases h;rcases xu with⟨_,rfl⟩|rfl|rfl<;>simp[p7,hO]at qQ
  rfl
 ·cases hx;cases hy
  rename_i k1 a k2 b;split at h
  ·rename_i he
   have he:=of_decide_eq_true he;cases h;rcases xu with⟨_,rfl⟩|rfl|rfl<;>simp[p7,hO]at qQ
   simp[Instr.sameNow,he];rfl
  ·cases h
 ·cases hx;cases hy
  cases h;rcases xu with⟨_,rfl⟩|rfl|rfl<;>simp[p7,hO]at qQ
  show some (_ ==_)=_;rename_i a b
  congr 1
  exact D3 _ _
 ·rcases xu with⟨_,rfl⟩|rfl|rfl<;>simp[p7,hO]at qQ
def Found(F:Nat->Nat)(w:World)(k:D)(es:List MapEntry)(n:Nat)(r:Option (Nat×D))(q:Option (Nat×Value)):Prop:=
 match r,q with
 | none,none=>True
 | some (i,v),some (j,u)=>i=j/\bq F w v u/\n<=i/\i<n+es.length /\ ∃ en,es[i-n]?=some en /\ ∃ kk,bq F w kk en.key/\gO k kk=some true
 | _,_=>False
theorem vD{F:Nat->Nat}{w:World}{kd:TypeDesc}{k:D}{x:Value}(hx:bq F w k x)(kX:∀ (k':D) (y:Value) (r:Bool),gO k k'=some r->bq F w k' y->Instr.sameNow kd x y=some r) :
  ∀ {bT:List (D×D)} {es:List MapEntry} {n:Nat} {r:Option (Nat×D)},findD k bT n=some r->bs F w bT es ->
   ∃ q,Instr.findNow kd x es n=some q/\Found F w k es n r q
 | [],es,n,r,h,hr=>by
  have hr:es = []:=hr;subst hr;simp only[findD,Option.some.injEq]at h;subst h;exact⟨none,rfl,trivial⟩
 | (k',v)::kr,es,n,r,h,hr=>by
  obtain⟨en,es',rfl,hk,hv,hr⟩:=hr;simp only[findD]at h;split at h
  ·rename_i hs
   cases h;refine⟨some (n,en.val),?_,rfl,hv,Nat.le_refl _,by simp,en,by simp,k',hk,hs⟩;simp only[Instr.findNow,kX k' en.key true hs hk]
  ·rename_i hs
   obtain⟨q,h1,h2⟩:=vD hx kX h hr;refine⟨q,?_,?_⟩
   ·simp only[Instr.findNow,kX k' en.key false hs hk];exact h1
   ·match r,q,h2 with
    | none,none,_=>trivial
    | some (i,v),some (j,u),⟨p1,p2,p3,p4,en',p5,p6⟩=>
     refine⟨p1,p2,by omega,by simp;omega,en',?_,p6⟩;have:i-n=(i-(n+1))+1:=by omega
     rw[this,List.getElem?_cons_succ];exact p5
  ·cases h
theorem vC{F:Nat->Nat}{w:World}{kt:TypeId}{k:D}{x:Value}(hx:bq F w k x)(kX:∀ (k':D) (y:Value) (r:Bool),gO k k'=some r->bq F w k' y->(Op.equal kt x y).run P w = .ok r w) :
  ∀ {bT:List (D×D)} {es:List MapEntry} {n:Nat} {r:Option (Nat×D)},findD k bT n=some r->bs F w bT es ->
   ∃ q,(Instr.findAsking kt x es n).run P w = .ok q w/\Found F w k es n r q
 | [],es,n,r,h,hr=>by
  have hr:es = []:=hr;subst hr;simp only[findD,Option.some.injEq]at h;subst h;exact⟨none,by simp[Instr.findAsking],trivial⟩
 | (k',v)::kr,es,n,r,h,hr=>by
  obtain⟨en,es',rfl,hk,hv,hr⟩:=hr;simp only[findD]at h;split at h
  ·rename_i hs
   cases h;refine⟨some (n,en.val),?_,rfl,hv,Nat.le_refl _,by simp,en,by simp,k',hk,hs⟩;simp[Instr.findAsking,kX k' en.key true hs hk]
  ·rename_i hs
   obtain⟨q,h1,h2⟩:=vC hx kX h hr;refine⟨q,?_,?_⟩
   ·simp[Instr.findAsking,kX k' en.key false hs hk,h1]
   ·match r,q,h2 with
    | none,none,_=>trivial
    | some (i,v),some (j,u),⟨p1,p2,p3,p4,en',p5,p6⟩=>
     refine⟨p1,p2,by omega,by simp;omega,en',?_,p6⟩;have:i-n=(i-(n+1))+1:=by omega
     rw[this,List.getElem?_cons_succ];exact p5
  ·cases h
theorem qZ:∀ {a b c d:List D},ck a b=some true->ck c d=some true->ck (a++c) (b++d)=some true
 | [],[],_,_,_,h=>h
 | [],_::_,_,_,h,_=>by simp[ck]at h
 | _::_,[],_,_,h,_=>by simp[ck]at h
 | x::a,y::b,c,d,h,k=>by
  simp only[ck]at h;split at h;case h_2=>cases h
  rename_i p q hp hq;simp only[Option.some.injEq,Bool.and_eq_true]at h;obtain⟨rfl,rfl⟩:=h;simp[ck,hp,qZ hq k]
theorem vG{T:dJ}:∀ (d:Nat) (t:TypeId) (n:Nat),flat T d t=some n -> ∃ ti,T.get t=some ti/\ti.size=n
 | 0,_,_,h=>by simp[flat]at h
 | d+1,t,n,h=>by
  simp only[flat]at h;split at h
  ·cases h
  rename_i ti eC;refine⟨ti,eC,?_⟩;split at h
  ·split at h
   ·rename_i hs;cases h;exact Nat.eq_of_beq_eq_true hs
   ·cases h
  ·split at h
   ·rename_i hs;cases h;exact Nat.eq_of_beq_eq_true hs
   ·cases h
  ·split at h
   ·rename_i hs;cases h;exact Nat.eq_of_beq_eq_true hs
   ·cases h
  ·split at h
   ·split at h
    ·rename_i hs;cases h;exact Nat.eq_of_beq_eq_true hs
    ·cases h
   ·cases h
  ·split at h
   ·split at h
    ·rename_i hs;cases h;exact Nat.eq_of_beq_eq_true hs
    ·cases h
   ·cases h
  ·cases h
theorem tg{T:dJ}{f:TypeId->Option Nat}{g:TypeId->List D->Bool}(hf:∀ t c xs,f t=some c->(∃ ti,T.get t=some ti/\ti.size=c)/\(xs.length=c->g t xs=true->ck xs xs=some true)):∀ (fs:List (Nat×TypeId)) (n m:Nat) (xs:List D),mQ f fs n=some m->xs.length=m->vE T g fs xs=true->n<=m/\ck (xs.drop n) (xs.drop n)=some true
 | [],n,m,xs,h,hl,_=>by
  simp only[mQ,Option.some.injEq]at h;subst h;rw[List.drop_eq_nil_of_le (by omega)];exact⟨Nat.le_refl _,rfl⟩
 | (off,t)::r,n,m,xs,h,hl,hk=>by
  simp only[mQ]at h;split at h;case h_2=>cases h
  rename_i c nM hc;have nM:=Nat.eq_of_beq_eq_true nM;subst nM;obtain⟨⟨ti,eC,cM⟩,_⟩:=hf t (c+1) xs hc;simp only[vE,eC]at hk;split at hk;case h_2=>cases hk
  rename_i dv;obtain⟨h1,h2⟩:=tg hf r _ m xs h hl hk;rw[cM]at dv;have h3:=(hf t (c+1) ((xs.drop off).take (c+1)) hc).2 (by simp;omega) dv;refine⟨by omega,?_⟩;have h4:=qZ h3 h2
  rwa [<- List.drop_drop,List.take_append_drop]at h4
theorem tj{g:List D->Bool}{c:Nat}(hg:∀ xs:List D,xs.length=c->g xs=true->ck xs xs=some true):∀ (n:Nat) (xs:List D),xs.length=n*c->vF g c n xs=true->ck xs xs=some true
 | 0,xs,hl,_=>by
  have:xs = []:=List.length_eq_zero_iff.1 (by simpa using hl);subst this;rfl
 | n+1,xs,hl,hk=>by
  rw[Nat.succ_mul]at hl;simp only[vF]at hk;split at hk;case h_2=>cases hk
  rename_i dv;have h1:=hg (xs.take c) (by simp;omega) dv;have h2:=tj hg n (xs.drop c) (by simp;omega) hk;have h3:=qZ h1 h2
  rwa [List.take_append_drop]at h3
theorem tk{T:dJ}:∀ (d:Nat) (t:TypeId) (xs:List D) (n:Nat),flat T d t=some n->xs.length=n->nK T d t xs=true->ck xs xs=some true
 | 0,_,_,_,h,_,_=>by simp[flat]at h
 | d+1,t,xs,n,h,hl,hk=>by
  simp only[flat]at h;split at h
  ·cases h
  rename_i ti eC;simp only[nK,eC]at hk;split at h
  ·rename_i da
   simp only[da]at hk;split at hk
   ·simp[ck,mw]
   ·cases hk
  ·rename_i da
   simp only[da]at hk;split at hk
   ·simp[ck,mw]
   ·cases hk
  ·rename_i da
   simp only[da]at hk;split at hk
   ·simp[ck,mw,rV]
   ·cases hk
  ·rename_i fs da
   simp only[da]at hk;split at h;case h_2=>cases h
   rename_i m _ hm;split at h;case h_2=>cases h
   cases h;have:=(tg (T:=T) (f:=fun t=>flat T d t) (g:=fun t xs=>nK T d t xs) (fun t c xs hc=>⟨vG d t c hc,fun hl hk=>tk d t xs c hc hl hk⟩) fs 0 _ xs hm hl hk).2;simpa using this
  ·rename_i m e da
   simp only[da]at hk;split at h;case h_2=>cases h
   rename_i c hc;split at h;case h_2=>cases h
   cases h;obtain⟨ei,ic,mG⟩:=vG d e (c+1) hc;simp only[ic,mG]at hk;exact tj (fun xs hl hk=>tk d e xs _ hc hl hk) m xs hl hk
  ·cases h
theorem ke(hT:aY P T){F:Nat->Nat}{w:World}{kt:TypeId}{k:D}{x:Value}(ho:Ip P T kt k)(hx:bq F w k x){bT:List (D×D)}{es:List MapEntry}{r:Option (Nat×D)}(hf:findD k bT 0=some r)(hr:bs F w bT es) :
  (∀ b,(Instr.checkKey b 10000 kt x).run P w = .ok () w) /\ ∃ q,(Instr.findKey kt x es).run P w = .ok q w/\Found F w k es 0 r q:=by
 cases ho with
 | plain dk hk xu qQ=>
  obtain⟨q,hq,hm⟩:=vD hx (HY xu hx qQ) hf hr;refine⟨fun b=>?_,q,by simp[Instr.findKey,run_underlying hk,hq],hm⟩;rw[show(10000:Nat)=9999+1 from rfl];unfold Instr.checkKey;rcases xu with⟨k,rfl⟩|rfl|rfl<;>simp[run_underlying hk]
 | wide dk cs n hk mF xu hc J7 hl hi=>
  subst hc;obtain⟨lx,rfl,pf⟩:=hx;obtain⟨ti,eC,mF⟩:=mF;have sf:∀ (zs:List D) (l:Array Value),aN F w zs l.toList->mJ T F w kt zs (.agg l):=fun zs l hl Ub tL=>by
   rw[eC]at tL;cases tL;rw[mF];exact⟨l,rfl,hl⟩
  have oa:∀ N,9<=N->wN P T F w N 9 kt n:=fun N hN=>oF hT 9 kt n J7 N hN;refine⟨fun b=>((oa 10000 (by decide)).2 cs cs true hl hi (tk 9 kt cs n J7 hl hi) _ _ (sf _ _ pf) (sf _ _ pf)).2 b,?_⟩;have kX:∀ (k':D) (y:Value) (r:Bool),gO (.agg cs) k'=some r->bq F w k' y->(Op.equal kt (.agg lx) y).run P w = .ok r w:=by
   intro k' y r hs hy;cases k'<;>simp only[gO]at hs<;>try (cases hs;done)
   obtain⟨ly,rfl,qR⟩:=hy;exact((oa Op.maxDepth (by decide)).2 cs _ r hl hi hs _ _ (sf _ _ pf) (sf _ _ qR)).1
  obtain⟨q,hq,hm⟩:=vC (P:=P) (kt:=kt) (k:=.agg cs) (x:=.agg lx) ⟨lx,rfl,pf⟩ kX hf hr
  cases mG:es with
  | nil=>
   subst mG;have:bT = []:=by
    cases bT with
    | nil=>rfl
    | cons p r=>obtain⟨_,_,h,_⟩:=hr;cases h
   subst this;simp only[findD,Option.some.injEq]at hf;subst hf;exact⟨none,by simp[Instr.findKey,run_underlying hk,Instr.findNow],trivial⟩
  | cons en es'=>
   rw[<- mG];refine⟨q,?_,hm⟩;have:Instr.findNow dk (.agg lx) es 0=none:=by rw[mG];simp[Instr.findNow,xu]
   simp[Instr.findKey,run_underlying hk,this,hq]
theorem sN{F:Nat->Nat}{w:World}(hT:aY P T){el:TypeId}{ei:nQ}(ic:T.get el=some ei){z:D}(hz:wJ ei=some z):∃ zv,(zeroValue el).run P w = .ok zv w/\bq F w z zv:=by
 obtain⟨i,d,hi,hd,_,_,_,_,_,AG⟩:=hT el ei ic;unfold wJ at hz;split at hz
 ·rename_i l hl ha
  cases hz;obtain⟨zv,C5,u6,mF⟩:=AG _ hl;refine⟨zv,by simp[zeroValue,typeInfo,hi,C5],?_⟩;rw[ha]at mF;unfold zeroCells at u6;unfold Cs at mF;split at mF
  ·rename_i l' ho
   rw[ho]at u6;cases u6;exact lD ho
  ·cases mF
 ·rename_i l hl ha
  cases hz;obtain⟨zv,C5,u6,mF⟩:=AG _ hl;refine⟨zv,by simp[zeroValue,typeInfo,hi,C5],?_⟩;rw[ha]at mF;unfold zeroCells at u6;unfold Cs at mF;split at u6
  ·rename_i l' ho;rw[ho]at mF;cases mF
  ·cases u6
  ·rename_i v _ _ ho
   cases u6;exact lD ho
  ·cases u6
 ·cases hz
theorem ur{d:TypeDesc}(h:xL (hO d)=true):∀ ms,d ≠ .interface ms:=by
 rintro ms rfl;cases h
theorem qk(hT:aY P T){t:TypeId}{x:Operand}(hk:eS T e h dst (.makeInterface t x) K):∃ ws,K ws/\Out P e h ⟨dst,.makeInterface t x,ty,pos,after,guard⟩ ws:=by
 simp only[eS]at hk;split at hk;case h_2=>exact hk.elim
 rename_i ti v ht hx;obtain⟨hp,hk⟩:=bw hk;obtain⟨de,fq,dv⟩:=dC hT ht;rw[dv]at hp;have DK:=ur hp;refine⟨_,hk,a6 (v:=.d (.ifc t v)) (o:=⟨dst,.makeInterface t x,ty,pos,after,guard⟩) fun cx r m L F st a w he hh hg=>⟨.iface t (a.eval x),?_,⟨_,rfl,hg.aD (az he hx)⟩⟩⟩;cases de<;>first|exact absurd rfl (DK _)|simp[execOp,Instr.makeInterface,run_underlying fq]
theorem qW{yv:Option Nat}{L:Loc}{F:Nat->Nat}{w:World}{c b:Bool}{v:D}{x:Value}(h:bq F w v x):aR yv L F w (og c v b) (if c=true then .tuple #[x,.bool b] else x):=by
 cases c
 ·exact h
 ·exact⟨_,rfl,_,_,rfl,h,_,_,rfl,rfl,rfl⟩
theorem um(hT:aY P T){x:Operand}{xt mE:TypeId}{c:Bool}(hk:eS T e h dst (.typeAssert x xt mE c) K):∃ ws,K ws/\Out P e h ⟨dst,.typeAssert x xt mE c,ty,pos,after,guard⟩ ws:=by
 simp only[eS]at hk;split at hk;case h_3=>exact hk.elim
 ·rename_i ti t v ht hx
  obtain⟨hp,ji⟩:=bw hk;clear hk;obtain⟨de,fq,dv⟩:=dC hT ht;rw[dv]at hp;have DK:=ur hp;split at ji
  ·rename_i Lp
   have:=Nat.eq_of_beq_eq_true Lp;subst this;refine⟨_,ji,a6 (v:=og c v true) (o:=⟨dst,.typeAssert x xt t c,ty,pos,after,guard⟩) fun cx r m L F st a w he hh hg=>?_⟩;obtain⟨y,hy,hr⟩:=hg.aD (az he hx);refine⟨if c=true then .tuple #[y,.bool true] else y,?_,qW hr⟩;cases de<;>first|exact absurd rfl (DK _)|simp[execOp,Instr.typeAssert,run_underlying fq,hy]
  ·rename_i Lp
   have eX:t≠mE:=by rintro rfl;simp at Lp
   split at ji;case h_2=>exact ji.elim
   rename_i _ _ z hz;refine⟨_,ji,a6 (v:=og true z false) (o:=⟨dst,.typeAssert x xt mE true,ty,pos,after,guard⟩) fun cx r m L F st a w he hh hg=>?_⟩;obtain⟨y,hy,hr⟩:=hg.aD (az he hx);obtain⟨zv,BX,IZ⟩:=sN (F:=F) (w:=w) hT ht hz;refine⟨.tuple #[zv,.bool false],?_,qW (c:=true) IZ⟩;cases de<;>first|exact absurd rfl (DK _)|simp[execOp,Instr.typeAssert,run_underlying fq,hy,eX,BX]
 ·rename_i ti ht hx
  obtain⟨hp,ji⟩:=bw hk;clear hk;obtain⟨de,fq,dv⟩:=dC hT ht;rw[dv]at hp;have DK:=ur hp;split at ji;case h_2=>exact ji.elim
  rename_i _ _ z hz;refine⟨_,ji,a6 (v:=og true z false) (o:=⟨dst,.typeAssert x xt mE true,ty,pos,after,guard⟩) fun cx r m L F st a w he hh hg=>?_⟩;have hy:a.eval x = .nilIface:=hg.aD (az he hx);obtain⟨zv,BX,IZ⟩:=sN (F:=F) (w:=w) hT ht hz;refine⟨.tuple #[zv,.bool false],?_,qW (c:=true) IZ⟩;cases de<;>first|exact absurd rfl (DK _)|simp[execOp,Instr.typeAssert,run_underlying fq,hy,BX]
theorem AX(hT:aY P T){t:TypeId}{x i:Operand}{c:Bool}(hk:eS T e h dst (.lookup t x i c) K):∃ ws,K ws/\Out P e h ⟨dst,.lookup t x i c,ty,pos,after,guard⟩ ws:=by
 simp only[eS]at hk;split at hk;case h_2=>exact hk.elim
 rename_i kt ki ei bT k hm xx hi;obtain⟨G6,⟨r,hf,hk⟩⟩:=bw hk;obtain⟨el,h1,h3,h5⟩:=sG hT hm;have EN:=xC hT h3 G6;have nL:∀ {σ:Type} (cx:Cx σ) (r:Option Nat) (m:List Nat) (L:Loc) (F:Nat->Nat) (st:St σ) (a:Act) (w:World),cP e st.env->cP h st.heap->Good cx r m L F st a w ->
   ∃ es:List MapEntry,bs F w bT es/\((a.eval x = .map none/\es = []) \/ ∃ b en cl,a.eval x = .map (some b)/\w.heap[b]?=some (.map en cl)/\en.toList=es):=by
  intro σ cx r m L F st a w he hh hg;unfold I1 at xx;split at xx
  ·rename_i p8 hx
   cases xx;obtain⟨b,en,cl,cF,hF,hb,hr⟩:=hg.aD (az he hx);exact⟨en.toList,hr,.inr ⟨b,en,cl,cF,hb,rfl⟩⟩
  ·rename_i hx
   cases xx;exact⟨[],rfl,.inl ⟨hg.aD (az he hx),rfl⟩⟩
  ·rename_i id hx
   split at xx;case h_2=>cases xx
   rename_i p8 ho;cases xx;obtain⟨en,cl,hb,hr,_⟩:=hg.heap.obj id _ (hh _ _ ho);exact⟨en.toList,hr,.inr ⟨_,en,cl,hg.aD (az he hx),hb,rfl⟩⟩
  ·cases xx
 have bp:∀ {a:Act} {w:World} {es:List MapEntry} {q:Option (Nat×Value)},(∀ b,(Instr.checkKey b 10000 kt (a.eval i)).run P w = .ok () w)->(Instr.findKey kt (a.eval i) es).run P w = .ok q w->((a.eval x = .map none/\es = []) \/ ∃ b en cl,a.eval x = .map (some b)/\w.heap[b]?=some (.map en cl)/\en.toList=es) ->
   ∀ v ok,((∃ n,q=some (n,v))/\ok=true)\/(q=none/\ok=false/\(zeroValue el).run P w = .ok v w)->(Instr.lookup t (a.eval x) (a.eval i) c).run P w = .ok (if c then .tuple #[v,.bool ok] else v) w:=by
  intro a w es q oa hq hx v ok hv;rcases hx with⟨hx,rfl⟩|⟨b,en,cl,hx,hb,rfl⟩
  ·have DL:(Instr.findKey kt (a.eval i) (#[]:Array MapEntry).toList).run P w = .ok q w:=hq
   rcases hv with⟨⟨n,rfl⟩,rfl⟩|⟨rfl,rfl,hz⟩
   ·simp[Instr.lookup,run_underlying h1,hx,oa,DL]
   ·simp[Instr.lookup,run_underlying h1,hx,oa,DL,hz]
  ·rcases hv with⟨⟨n,rfl⟩,rfl⟩|⟨rfl,rfl,hz⟩
   ·simp[Instr.lookup,run_underlying h1,hx,oa,hq,getObj,Sem.run,hb]
   ·simp[Instr.lookup,run_underlying h1,hx,oa,hq,getObj,Sem.run,hb,hz]
 have IP:∀ {F:Nat->Nat} {w:World} {yv:Option Nat} {L:Loc} {v:D} {u:Value} {ok:Bool},bq F w v u->aR yv L F w (og c v ok) (if c then .tuple #[u,.bool ok] else u):=by
  intro F w yv L v u ok hv;cases c
  ·exact hv
  ·exact⟨_,rfl,_,_,rfl,hv,_,_,rfl,rfl,rfl⟩
 cases r with
 | some nv=>
  obtain⟨n,v⟩:=nv;refine⟨_,hk,a6 (o:=⟨dst,.lookup t x i c,ty,pos,after,guard⟩) fun cx r m L F st a w he hh hg=>?_⟩;obtain⟨es,hr,hx⟩:=nL cx r m L F st a w he hh hg;have ob:bq F w k (a.eval i):=hg.aD (az he hi);obtain⟨oa,q,hq,hm⟩:=ke hT EN ob hf hr
  cases q with
  | none=>exact hm.elim
  | some ju=>
   obtain⟨j,u⟩:=ju;obtain⟨rfl,hv,_⟩:=hm;exact⟨_,by simp[execOp,bp oa hq hx u true (.inl ⟨⟨n,rfl⟩,rfl⟩)],IP hv⟩
 | none=>
  simp only at hk;split at hk;case h_2=>exact hk.elim
  rename_i z hz;refine⟨_,hk,a6 (o:=⟨dst,.lookup t x i c,ty,pos,after,guard⟩) fun cx r m L F st a w he hh hg=>?_⟩;obtain⟨es,hr,hx⟩:=nL cx r m L F st a w he hh hg;have ob:bq F w k (a.eval i):=hg.aD (az he hi);obtain⟨oa,q,hq,hm⟩:=ke hT EN ob hf hr
  cases q with
  | some ju=>exact hm.elim
  | none=>
   obtain⟨zv,BX,IZ⟩:=sN (F:=F) (w:=w) hT h5 hz;exact⟨_,by simp[execOp,bp oa hq hx zv false (.inr ⟨rfl,rfl,BX⟩)],IP IZ⟩
theorem bs.set{F:Nat->Nat}{w:World}{k v:D}{x y:Value}(hk:bq F w k x)(hv:bq F w v y):∀ {bT:List (D×D)} {es:List MapEntry} (n:Nat),bs F w bT es->bs F w (bT.set n (k,v)) (es.modify n fun e=>{ e with key:=x,val:=y })
 | [],es,n,h=>by rw[show es = [] from h];cases n<;>rfl
 | (k',v')::r,es,0,h=>by
  obtain⟨en,es',rfl,_,_,hr⟩:=h;exact⟨{ en with key:=x,val:=y },es',by simp,hk,hv,hr⟩
 | (k',v')::r,es,n+1,h=>by
  obtain⟨en,es',rfl,h1,h2,hr⟩:=h;exact⟨en,es'.modify n fun e=>{ e with key:=x,val:=y },by simp,h1,h2,bs.set hk hv n hr⟩
theorem bs.push{F:Nat->Nat}{w:World}{k v:D}{x y:Value}{b:Nat}(hk:bq F w k x)(hv:bq F w v y):∀ {bT:List (D×D)} {es:List MapEntry},bs F w bT es->bs F w (bT ++ [(k,v)]) (es ++ [{ key:=x,val:=y,born:=b }])
 | [],es,h=>by rw[show es = [] from h];exact⟨_,[],rfl,hk,hv,rfl⟩
 | (k',v')::r,es,h=>by
  obtain⟨en,es',rfl,h1,h2,hr⟩:=h;exact⟨en,es' ++ [{ key:=x,val:=y,born:=b }],by simp,h1,h2,bs.push hk hv hr⟩
theorem A5{F:Nat->Nat}{w:World}{n:Nat}{a:D}{x y:Value}(h:mw a a=some true)(hx:bq F w a x)(hy:bq F w a y):x=y/\Instr.sameBits (n+1) x y=true:=by
 cases a<;>simp only[mw]at h<;>try (cases h;done)
 ·cases hx;cases hy;exact⟨rfl,by simp[Instr.sameBits]⟩
 ·cases hx;cases hy;exact⟨rfl,by simp[Instr.sameBits]⟩
 ·rename_i t v
  obtain⟨x1,rfl,h1⟩:=hx;obtain⟨y1,rfl,h2⟩:=hy;cases v<;>simp[rV]at h
  cases h1;cases h2
  exact⟨rfl,by cases n<;>simp[Instr.sameBits]⟩
theorem vx{F:Nat->Nat}{w:World}{n:Nat}:∀ {cs:List D} {l m:List Value},ck cs cs=some true->aN F w cs l->aN F w cs m->l=m/\(l.zip m).all (fun(x,y)=>Instr.sameBits (n+1) x y)=true
 | [],l,m,_,hl,hm=>by
  have hl:l = []:=hl;have hm:m = []:=hm;subst hl hm;exact⟨rfl,rfl⟩
 | c::cs,l,m,hi,hl,hm=>by
  obtain⟨x,l',rfl,hx,hl⟩:=hl;obtain⟨y,m',rfl,hy,hm⟩:=hm;simp only[ck]at hi;split at hi;case h_2=>cases hi
  rename_i p q hp hq;simp only[Option.some.injEq,Bool.and_eq_true]at hi;obtain⟨rfl,rfl⟩:=hi;obtain⟨h1,h2⟩:=vx (n:=n) (cs:=cs) hq hl hm;obtain⟨h3,h4⟩:=A5 (n:=n) hp hx hy;exact⟨by rw[h1,h3],by simp only[List.zip_cons_cons,List.all_cons,h2,h4,Bool.and_true]⟩
theorem re{F:Nat->Nat}{w:World}{k k':D}{x y:Value}(hx:bq F w k x)(hy:bq F w k' y)(h:gO k k'=some true):Instr.sameBits 10000 y x=true:=by
 cases k<;>cases k'<;>simp only[gO]at h<;>try (cases h;done)
 ·cases hx;cases hy
  rename_i a b;have h:=Option.some.inj h;show(b ==a)=true;cases a<;>cases b<;>simp_all
 ·cases hx;cases hy
  rename_i k1 a k2 b;split at h
  ·rename_i he
   have he:=of_decide_eq_true he;have h:=of_decide_eq_true (Option.some.inj h);subst he;subst h;simp[Instr.sameBits]
  ·cases h
 ·cases hx;cases hy
  have h:=of_decide_eq_true (Option.some.inj h);subst h;show(_ ==_)=true;rw[D3];simp
 ·obtain⟨lx,rfl,pf⟩:=hx
  obtain⟨ly,rfl,qR⟩:=hy;have h1:=uB h;subst h1;obtain⟨e,hb⟩:=vx (n:=9998) h qR pf;have:ly=lx:=Array.ext' e;subst this;rw[show(10000:Nat)=9999+1 from rfl];unfold Instr.sameBits;rw[Bool.and_eq_true];exact⟨by simp,hb⟩
theorem bs.ng{F:Nat->Nat}{w:World}{k:D}{x:Value}(hk:bq F w k x):∀ {bT:List (D×D)} {es:List MapEntry} (n:Nat),bs F w bT es->bs F w (ng bT n k) (es.modify n fun e=>{ e with key:=x })
 | [],es,n,h=>by rw[show es = [] from h];cases n<;>rfl
 | (k',v')::r,es,0,h=>by
  obtain⟨en,es',rfl,_,hv,hr⟩:=h;exact⟨{ en with key:=x },es',by simp,hk,hv,hr⟩
 | (k',v')::r,es,n+1,h=>by
  obtain⟨en,es',rfl,h1,h2,hr⟩:=h;exact⟨en,es'.modify n fun e=>{ e with key:=x },by simp,h1,h2,bs.ng hk n hr⟩
theorem bs.nh{F:Nat->Nat}{w:World}{v:D}{x:Value}(hk:bq F w v x):∀ {bT:List (D×D)} {es:List MapEntry} (n:Nat),bs F w bT es->bs F w (nh bT n v) (es.modify n fun e=>{ e with val:=x })
 | [],es,n,h=>by rw[show es = [] from h];cases n<;>rfl
 | (k',v')::r,es,0,h=>by
  obtain⟨en,es',rfl,eW,_,hr⟩:=h;exact⟨{ en with val:=x },es',by simp,eW,hk,hr⟩
 | (k',v')::r,es,n+1,h=>by
  obtain⟨en,es',rfl,h1,h2,hr⟩:=h;exact⟨en,es'.modify n fun e=>{ e with val:=x },by simp,h1,h2,bs.nh hk n hr⟩
theorem pk.modify{en:Array MapEntry}{c:Nat}(h:pk en c){f:MapEntry->MapEntry}(hf:∀ e,(f e).born=e.born)(n:Nat):pk (en.modify n f) c:=by
 refine⟨by simpa using h.1,fun i e he=>?_⟩;rw[Array.getElem?_modify]at he;split at he
 ·obtain⟨e',J3,rfl⟩:=Option.map_eq_some_iff.1 he
  rw[hf];exact h.2 i e' J3
 ·exact h.2 i e he
theorem pk.push{en:Array MapEntry}{c:Nat}(h:pk en c)(k v:Value):pk (en.push { key:=k,val:=v,born:=c }) (c+1):=by
 refine⟨by simp[h.1],fun i e he=>?_⟩;rw[Array.getElem?_push]at he;split at he
 ·rename_i hi
  cases he;rw[hi];exact h.1
 ·exact h.2 i e he
theorem qc{σ:Type}{cx:Cx σ}{r:Option Nat}{m:List Nat}{L:Loc}{F:Nat->Nat}{st:St σ}{a:Act}{w:World}(hg:Good cx r m L F st a w){id:Nat}{bT p8:List (D×D)}(h0:get st.heap id=some (.map bT)){en en':Array MapEntry}{cl cl':Nat}(hb:w.heap[L.ρ id]?=some (.map en cl))
  (hr:bs F w p8 en'.toList) (oJ:pk en' cl') :
  Good cx r m L F (br st (.obj id (.map p8))) a { w with heap:=w.heap.setIfInBounds (L.ρ id) (.map en' cl') }/\Tr F w F { w with heap:=w.heap.setIfInBounds (L.ρ id) (.map en' cl') }:=by
 have dN:=(Array.getElem?_eq_some_iff.1 hb).1;have hF:=(hg.heap.own id _ h0 trivial).1;have gV:∀ z,z≠L.ρ id->({ w with heap:=w.heap.setIfInBounds (L.ρ id) (.map en' cl') }:World).heap[z]?=w.heap[z]?:=fun z hz=>by simp[Array.getElem?_setIfInBounds_ne (Ne.symm hz)]
 have tr:Tr F w F { w with heap:=w.heap.setIfInBounds (L.ρ id) (.map en' cl') }:=
  .gM rfl rfl rfl (by simp) (fun _=>Nat.le_refl _) hg.heap.fresh fun b _ Us=>gV b (by rintro rfl;omega)
 exact hg.obj (o:=.map p8) h0 trivial (w':={ w with heap:=w.heap.setIfInBounds (L.ρ id) (.map en' cl') }) rfl rfl rfl (by simp) gV
  (by rw[hb];intro ds e;cases e) (by rw[hb];intro lp e;cases e) ⟨en',cl',by simp[Array.getElem?_setIfInBounds,dN],bs.mono tr _ _ hr,oJ⟩
theorem vf(hT:aY P T){t:TypeId}{x i y:Operand}(hk:eS T e h dst (.mapUpdate t x i y) K):∃ ws,K ws/\Out P e h ⟨dst,.mapUpdate t x i y,ty,pos,after,guard⟩ ws:=by
 simp only[eS]at hk;split at hk;case h_2=>exact hk.elim
 rename_i kt ki ei id k v hm hx hi hy;split at hk;case h_2=>exact hk.elim
 rename_i bT ho;obtain⟨G6,⟨q0,hf,hk⟩⟩:=bw hk;obtain⟨el,h1,h3,h5⟩:=sG hT hm;have EN:=xC hT h3 G6;have main:∀ (p8:List (D×D)),(∀ {F:Nat->Nat} {w:World} {a:Act} {en:Array MapEntry} {cl:Nat},bq F w k (a.eval i)->bq F w v (a.eval y)->bs F w bT en.toList->pk en cl ->
   ∃ en' cl',(∀ b,a.eval x = .map (some b)->w.heap[b]?=some (.map en cl)->(Instr.mapUpdate t (a.eval x) (a.eval i) (a.eval y)).run P w = .ok () { w with heap:=w.heap.setIfInBounds b (.map en' cl') })/\bs F w p8 en'.toList/\pk en' cl') ->
   Out P e h ⟨none,.mapUpdate t x i y,ty,pos,after,guard⟩ [.obj id (.map p8)]:=by
  intro p8 bp σ cx r m L F st a w he hh hg hd;have cF:a.eval x = .map (some (L.ρ id)):=hg.aD (az he hx);have ob:bq F w k (a.eval i):=hg.aD (az he hi);have C4:bq F w v (a.eval y):=hg.aD (az he hy);have h0:=hh _ _ ho;obtain⟨en,cl,hb,hr,oJ⟩:=hg.heap.obj id _ h0;obtain⟨en',cl',vQ,BV,JZ⟩:=bp (a:=a) (cl:=cl) ob C4 hr oJ;obtain⟨g1,g2⟩:=qc hg h0 hb BV JZ;exact⟨undef,_,.skip,by simp[execOp,vQ _ cF hb],.inr ⟨rfl,rfl⟩,L,F,g1,g2⟩
 cases q0 with
 | some nv=>
  obtain⟨n,u⟩:=nv;refine⟨_,hk,main _ fun {F w a en cl} ob C4 hr oJ=>?_⟩;obtain⟨oa,q,hq,hm⟩:=ke hT EN ob hf hr
  cases q with
  | none=>exact hm.elim
  | some ju=>
   obtain⟨j,u'⟩:=ju;obtain⟨rfl,_,_,dN,yA,J4,kk,qQ,C1⟩:=hm;refine⟨en.modify n fun e=>{ e with key:=a.eval i,val:=a.eval y },cl,fun b Ho hb=>?_,by rw[Array.toList_modify];exact bs.set ob C4 n hr,oJ.modify (f:=fun e=>{ e with key:=a.eval i,val:=a.eval y }) (fun _=>rfl) n⟩;have uR:=re ob qQ C1;have CS:en[n]?=some yA:=by simpa using J4
   simp[Instr.mapUpdate,run_underlying h1,Ho,getObj,setObj,Sem.run,hb,oa,hq,Instr.keyThatStays,CS,uR]
 | none=>
  refine⟨_,hk,main _ fun {F w a en cl} ob C4 hr oJ=>?_⟩;obtain⟨oa,q,hq,hm⟩:=ke hT EN ob hf hr
  cases q with
  | some ju=>exact hm.elim
  | none=>
   refine⟨en.push { key:=a.eval i,val:=a.eval y,born:=cl },cl+1,fun b Ho hb=>?_,by simpa using bs.push ob C4 hr,oJ.push _ _⟩;simp[Instr.mapUpdate,run_underlying h1,Ho,getObj,setObj,Sem.run,hb,oa,hq]
theorem AW(hT:aY P T){t:TypeId}{x i y:Operand}(hk:eS T e h dst (.insert t x i y) K):∃ ws,K ws/\Out P e h ⟨dst,.insert t x i y,ty,pos,after,guard⟩ ws:=by
 simp only[eS]at hk;split at hk;case h_2=>exact hk.elim
 rename_i kt ki ei id k v hm hx hi hy;split at hk;case h_2=>exact hk.elim
 rename_i bT ho;obtain⟨G6,⟨q0,hf,hk⟩⟩:=bw hk;obtain⟨el,h1,h3,h5⟩:=sG hT hm;have EN:=xC hT h3 G6;have main:∀ (p8:List (D×D)),(∀ {F:Nat->Nat} {w:World} {a:Act} {en:Array MapEntry} {cl:Nat},bq F w k (a.eval i)->bq F w v (a.eval y)->bs F w bT en.toList->pk en cl ->
   ∃ en' cl',(∀ b,a.eval x = .map (some b)->w.heap[b]?=some (.map en cl)->(Instr.mapUpdate t (a.eval x) (a.eval i) (a.eval y)).run P w = .ok () { w with heap:=w.heap.setIfInBounds b (.map en' cl') })/\bs F w p8 en'.toList/\pk en' cl') ->
   Out P e h ⟨none,.insert t x i y,ty,pos,after,guard⟩ [.obj id (.map p8)]:=by
  intro p8 bp σ cx r m L F st a w he hh hg hd;have cF:a.eval x = .map (some (L.ρ id)):=hg.aD (az he hx);have ob:bq F w k (a.eval i):=hg.aD (az he hi);have C4:bq F w v (a.eval y):=hg.aD (az he hy);have h0:=hh _ _ ho;obtain⟨en,cl,hb,hr,oJ⟩:=hg.heap.obj id _ h0;obtain⟨en',cl',vQ,BV,JZ⟩:=bp (a:=a) (cl:=cl) ob C4 hr oJ;obtain⟨g1,g2⟩:=qc hg h0 hb BV JZ;exact⟨undef,_,.skip,by simp[execOp,vQ _ cF hb],.inr ⟨rfl,rfl⟩,L,F,g1,g2⟩
 cases q0 with
 | some nv=>
  obtain⟨n,u⟩:=nv;refine⟨_,hk,main _ fun {F w a en cl} ob C4 hr oJ=>?_⟩;obtain⟨oa,q,hq,hm⟩:=ke hT EN ob hf hr
  cases q with
  | none=>exact hm.elim
  | some ju=>
   obtain⟨j,u'⟩:=ju;obtain⟨rfl,_,_,dN,yA,J4,kk,qQ,C1⟩:=hm;refine⟨en.modify n fun e=>{ e with key:=a.eval i,val:=a.eval y },cl,fun b Ho hb=>?_,by rw[Array.toList_modify];exact bs.set ob C4 n hr,oJ.modify (f:=fun e=>{ e with key:=a.eval i,val:=a.eval y }) (fun _=>rfl) n⟩;have uR:=re ob qQ C1;have CS:en[n]?=some yA:=by simpa using J4
   simp[Instr.mapUpdate,run_underlying h1,Ho,getObj,setObj,Sem.run,hb,oa,hq,Instr.keyThatStays,CS,uR]
 | none=>
  refine⟨_,hk,main _ fun {F w a en cl} ob C4 hr oJ=>?_⟩;obtain⟨oa,q,hq,hm⟩:=ke hT EN ob hf hr
  cases q with
  | some ju=>exact hm.elim
  | none=>
   refine⟨en.push { key:=a.eval i,val:=a.eval y,born:=cl },cl+1,fun b Ho hb=>?_,by simpa using bs.push ob C4 hr,oJ.push _ _⟩;simp[Instr.mapUpdate,run_underlying h1,Ho,getObj,setObj,Sem.run,hb,oa,hq]
theorem xJ(hT:aY P T){t:TypeId}{x i:Operand}(hk:eS T e h dst (.mapEntry t x i) K):∃ ws,K ws/\Out P e h ⟨dst,.mapEntry t x i,ty,pos,after,guard⟩ ws:=by
 simp only[eS]at hk;split at hk;case h_2=>exact hk.elim
 rename_i d kt ki ei id k hm hx hi;split at hk;case h_2=>exact hk.elim
 rename_i bT ho;obtain⟨G6,⟨q0,hf,hk⟩⟩:=bw hk;obtain⟨el,h1,h3,h5⟩:=sG hT hm;have EN:=xC hT h3 G6
 cases q0 with
 | some nv=>
  obtain⟨n,u⟩:=nv;refine⟨_,hk,?_⟩;intro σ cx r m L F st a w he hh hg hd;have cF:a.eval x = .map (some (L.ρ id)):=hg.aD (az he hx);have ob:bq F w k (a.eval i):=hg.aD (az he hi);have h0:=hh _ _ ho;obtain⟨en,cl,hb,hr,oJ⟩:=hg.heap.obj id _ h0;obtain⟨oa,q,hq,hm⟩:=ke hT EN ob hf hr
  cases q with
  | none=>exact hm.elim
  | some ju=>
   obtain⟨j,u'⟩:=ju;obtain⟨rfl,hu,_,dN,yA,J4,kk,qQ,C1⟩:=hm;have uR:=re ob qQ C1;have CS:en[n]?=some yA:=by simpa using J4
   obtain⟨g1,g2⟩:=qc hg h0 (en':=en.modify n fun e=>{ e with key:=a.eval i }) (cl':=cl) hb (by rw[Array.toList_modify];exact bs.ng ob n hr) (oJ.modify (f:=fun e=>{ e with key:=a.eval i }) (fun _=>rfl) n);refine⟨.tuple #[u',goInt n],_,_,?_,.inl rfl,L,F,g1.set (v:=.d (.tup [u,.int .i64 n])) (hd d rfl) ⟨_,rfl,_,_,rfl,bq.mono g2 _ _ hu,_,_,rfl,rfl,rfl⟩,g2⟩;simp[execOp,Instr.mapEntry,run_underlying h1,cF,getObj,setObj,Sem.run,hb,oa,hq,Instr.keyThatStays,CS,uR,oJ.2 n yA CS]
 | none=>
  simp only at hk;split at hk;case h_2=>exact hk.elim
  rename_i z hz;refine⟨_,hk,?_⟩;intro σ cx r m L F st a w he hh hg hd;have cF:a.eval x = .map (some (L.ρ id)):=hg.aD (az he hx);have ob:bq F w k (a.eval i):=hg.aD (az he hi);have h0:=hh _ _ ho;obtain⟨en,cl,hb,hr,oJ⟩:=hg.heap.obj id _ h0;obtain⟨oa,q,hq,hm⟩:=ke hT EN ob hf hr
  cases q with
  | some ju=>exact hm.elim
  | none=>
   obtain⟨zv,BX,IZ⟩:=sN (F:=F) (w:=w) hT h5 hz;obtain⟨g1,g2⟩:=qc hg h0 (en':=en.push { key:=a.eval i,val:=zv,born:=cl }) (cl':=cl+1) hb (by simpa using bs.push ob IZ hr) (oJ.push _ _);have Ae:cl=bT.length:=by
    have:=bs.get hr;rw[oJ.1];simpa using this
   refine⟨.tuple #[zv,goInt cl],_,_,?_,.inl rfl,L,F,g1.set (v:=.d (.tup [z,.int .i64 bT.length])) (hd d rfl) ⟨_,rfl,_,_,rfl,bq.mono g2 _ _ IZ,_,_,rfl,by rw[Ae];rfl,rfl⟩,g2⟩;simp[execOp,Instr.mapEntry,run_underlying h1,cF,getObj,setObj,Sem.run,hb,oa,hq,BX]
theorem uj(hT:aY P T){t:TypeId}{x i y:Operand}(hk:eS T e h dst (.entryStore t x i y) K):∃ ws,K ws/\Out P e h ⟨dst,.entryStore t x i y,ty,pos,after,guard⟩ ws:=by
 simp only[eS]at hk;split at hk;case h_2=>exact hk.elim
 rename_i id n v hx hi hy;split at hk;case h_2=>exact hk.elim
 rename_i bT ho;obtain⟨hc,hk⟩:=bw hk;simp only[Bool.and_eq_true,decide_eq_true_eq]at hc;refine⟨_,hk,?_⟩;intro σ cx r m L F st a w he hh hg hd;have cF:a.eval x = .map (some (L.ρ id)):=hg.aD (az he hx);have pd:a.eval i = .int .i64 n:=hg.aD (az he hi);have C4:bq F w v (a.eval y):=hg.aD (az he hy);have h0:=hh _ _ ho;obtain⟨en,cl,hb,hr,oJ⟩:=hg.heap.obj id _ h0;have cM:en.size=bT.length:=by simpa using bs.get hr
 obtain⟨g1,g2⟩:=qc hg h0 (en':=en.modify n.toNat fun e=>{ e with val:=a.eval y }) (cl':=cl) hb (by rw[Array.toList_modify];exact bs.nh C4 n.toNat hr) (oJ.modify (f:=fun e=>{ e with val:=a.eval y }) (fun _=>rfl) _);have EI:en.findIdx? (fun e=>(e.born:Int) ==n)=some n.toNat:=by
  rw[Array.findIdx?_eq_some_iff_getElem];refine⟨by omega,?_,fun j hj=>?_⟩
  ·have:=oJ.2 n.toNat _ (Array.getElem?_eq_getElem (by omega))
   simp[this];omega
  ·have:=oJ.2 j _ (Array.getElem?_eq_getElem (by omega))
   simp[this];omega
 refine⟨undef,_,.skip,?_,.inr ⟨rfl,rfl⟩,L,F,g1,g2⟩;simp[execOp,Instr.entryStore,cF,pd,getObj,setObj,Sem.run,hb,EI,asInt,asIntOf]
end
theorem oq{α:Type}{z:List α}:∀ {n j:Nat} {c:α},(List.replicate n z).flatten[j]?=some c->z[j%z.length]?=some c
 | 0,j,c,h=>by simp at h
 | n+1,j,c,h=>by
  rw[List.replicate_succ,List.flatten_cons]at h;by_cases hj:j<z.length
  ·rw[List.getElem?_append_left hj]at h
   rw[Nat.mod_eq_of_lt hj];exact h
  ·rw[List.getElem?_append_right (by omega)]at h
   rw[Nat.mod_eq_sub_mod (by omega)];exact oq h
theorem Good.zL{σ:Type}{cx:Cx σ}{r:Option Nat}{m:List Nat}{L:Loc}{F:Nat->Nat}{st dj:St σ}{a:Act}{w:World}(hh:Good cx r m L F st a w)(hg:∀ i,get dj.heap i=get st.heap i)(he:dj.env=st.env:=by rfl)(hs:dj.s=st.s:=by rfl):Good cx r m L F dj a w:=by
 cases st with|mk e h s=>
 cases dj with|mk e' h' s'=>
 have he:e'=e:=he;have hs:s'=s:=hs;have hg:∀ i,get h' i=get h i:=hg;subst he hs;obtain⟨⟨h1,h2,h3,h4,h5,h6⟩,h7,h8,h9,Un,VC,VD,VE⟩:=hh;exact⟨⟨h1,h2,h3,fun i o hi=>h4 i o (by rw[<- hg i];exact hi),fun i o hi=>h5 i o (by rw[<- hg i];exact hi),fun i j o p hi hj=>h6 i j o p (by rw[<- hg i];exact hi) (by rw[<- hg j];exact hj)⟩,h7,h8,h9,Un,VC,VD,VE⟩
section
variable {P : Program} {T : dJ} {e : Env} {h : ar} {dst : Option Nat} {K : List Wr -> Prop} {ty : TypeId} {pos : String} {after : Array Edge} {guard : Option (Nat × Bool)}
theorem ve(hT:aY P T){t:TypeId}{l c:Operand}(hk:eS T e h dst (.makeSlice t l c) K):∃ ws,K ws/\Out P e h ⟨dst,.makeSlice t l c,ty,pos,after,guard⟩ ws:=by
 simp only[eS]at hk;split at hk;case h_2=>exact hk.elim
 rename_i ei n m d hs hl hc;split at hk;case h_2=>exact hk.elim
 rename_i z AG;obtain⟨GW,hk⟩:=bw hk;simp only[Bool.and_eq_true,decide_eq_true_eq]at GW;obtain⟨ec,h0,tI⟩:=GW;obtain⟨gG,hk⟩:=bw hk;have gG:=of_decide_eq_true gG;obtain⟨el,hu,ic⟩:=jl hT hs;have Ha:=ec;simp only[lK,Bool.and_eq_true,Bq,AG]at Ha;have PW:z.length=ei.size:=cT Ha.2;obtain⟨i,dd,kA,tC,dA,oK,_,_,_,hz⟩:=hT el ei ic;obtain⟨zv,C5,u6,_⟩:=hz z AG;obtain⟨_,_,_,_,cM,BR,_,_,_⟩:=pG hT ic ec;refine⟨_,hk,?_⟩;intro σ cx r mm L F st a w he hh hg hd;have S0:a.eval l = .int .i64 n:=hg.aD (az he hl);have S1:a.eval c = .int .i64 m:=hg.aD (az he hc);have Wi:0<=m:=by omega
 have Xl:m<=m*(ei.bytes:Int):=by
  have h1:(1:Int)<=(ei.bytes:Int):=by omega
  calc m=m*1:=by omega
   _<=m*(ei.bytes:Int):=Int.mul_le_mul_of_nonneg_left h1 Wi
 have hr:=run_make (P:=P) w t el i zv hu kA C5 .i64 .i64 n m h0 tI (by rw[<- oK,Int.mul_comm];omega) (by omega);have BX:∀ w':World,aN F w' z zv.cells.toList:=fun w'=>g5 u6;have I0:zv.cells.size=ei.size:=by
  have:=(BX w).length;rw[PW]at this;simpa using this
 generalize eH:madeCells zv.cells (m.toNat*i.size)=cells at hr;have oL:cells.size=m.toNat*ei.size:=by rw[<- eH,size_madeCells,dA]
 have fv:cy ei.size (aI.dd (List.replicate n.toNat z)).a5:=by
  intro e he;simp only[aI.a5,cn,List.mem_map]at he;obtain⟨y,hy,rfl⟩:=he;rw[List.eq_of_mem_replicate hy,dK,PW]
 have r9:(aI.dd (List.replicate n.toNat z)).a5.length=n.toNat:=by simp[aI.a5,cn]
 have hle:n.toNat*ei.size<=m.toNat*ei.size:=Nat.mul_le_mul_right _ (by omega);have tr:Tr F w F (w.alloc (.cells cells el)):=Tr.alloc hg.heap.fresh _;have vO:ak cx.yv L F w (aI.dd (List.replicate n.toNat z)).a5.flatten (cells.toList.take (n.toNat*ei.size)):=by
  show ak _ _ _ _ (cw _).flatten _;rw[dB];have J7:(List.replicate n.toNat z).flatten.length=n.toNat*ei.size:=by
   simp[PW]
  refine .iL (by rw[dK,J7];simp;omega) fun j v hj=>?_;have G5:j<n.toNat*ei.size:=by
   have:=(List.getElem?_eq_some_iff.1 hj).1;rw[dK,J7]at this;exact this
  rw[List.getElem?_take_of_lt G5];simp only[sC,Option.map_eq_some_iff]at hj;obtain⟨v',Hl,rfl⟩:=hj;have:=oq Hl;obtain⟨x,hx,WK⟩:=aN.get _ (BX w) this;refine⟨x,?_,WK⟩;rw[<- eH];have Wa:j<m.toNat*i.size:=by rw[<- dA];omega
  rw[PW,<- I0]at hx;have jU:zv.cells[j%zv.cells.size]?=some x:=by simpa using hx
  have dN:=(Array.getElem?_eq_some_iff.1 jU).1;have:zv.cells[j%zv.cells.size]! =x:=by
   rw[getElem!_pos zv.cells (j%zv.cells.size) dN];exact(Array.getElem?_eq_some_iff.1 jU).2
  simp[madeCells,Wa,this]
 have pV:=hg.new d cells.size (.arr ei.size (.dd (List.replicate n.toNat z))) (.cells cells el) (hg.dH (hd d rfl)) ⟨cM,fv,.inr ⟨cells,el,(by show(w.alloc _).heap[if d=d then w.heap.size else L.ρ d]?=_;rw[if_pos rfl];exact heap_alloc_new w _),(by simp),(by rw[r9,oL];exact hle),(by
  rw[r9];exact ak.jJ (L:=L) (id:=d) tr (fun i hi=>by simp[hi]) (mN (c:=.dd _) rfl) vO)⟩⟩
 have bp:(execOp a.eval ⟨some d,.makeSlice t l c,ty,pos,after,guard⟩).run P w = .ok (.value (.slice (some ⟨w.heap.size,0,none⟩) n.toNat m.toNat)) (w.alloc (.cells cells el)):=by
  simp[execOp,S0,S1,hr]
 refine⟨_,_,_,bp,.inl rfl,_,F,pV.set (v:=.sl d ei.size 0 n.toNat) (hd d rfl) ⟨_,_,rfl,by omega,cM,.inr ⟨(by simp),(by simp[oL])⟩⟩,tr⟩
theorem FJ{w:World}{dT sT ty el:TypeId}{i:TypeInfo}(hu:P.underlying dT=some (.slice el))(hi:P.info? el=some i)(hs:i.size=1){base ay:Option Addr}{dLen dCap sLen sCap:Nat}{cs:List Value}
  (hl:cs.length=min sLen dLen) (hc:cs = [] \/ ∃ b off,ay=some ⟨b,off,none⟩ /\ ∀ (j:Nat) v,cs[j]?=some v->w.cell? ⟨b,off+j,none⟩=some v)
  {g o:Nat} {cur:Array Value} {t:TypeId} (hb:cs = []\/base=some ⟨g,o,none⟩) (hg:w.heap[g]?=some (.cells cur t (0,0))) (hf:o+cs.length<=cur.size) (h1:∀ v∈cs,v.oneCell'=true) :
  (Builtin.copy_ #[dT,sT] ty #[.slice base dLen dCap,.slice ay sLen sCap]).run P w = .ok (goInt cs.length) (w.setRow g (cur.toList.take o++cs++cur.toList.drop (o+cs.length)).toArray):=by
 rcases hb with rfl|rfl
 ·have Kn:min sLen dLen=0:=by simpa using hl.symm
  have Gl:Nat.min sLen dLen=0:=Kn;have tK:w.setRow g (cur.toList.take o ++ []++cur.toList.drop (o+([]:List Value).length)).toArray=w:=by
   simp only[List.append_nil,List.length_nil,Nat.add_zero,List.take_append_drop,Array.toArray_toList];exact setRow_self w g cur t (0,0) hg
  rw[tK];cases base<;>cases ay<;>simp[Builtin.copy_,run_underlying hu,Builtin.lenOf,Builtin.firstCells,sizeOf,typeInfo,hi,hs,Gl,storeCells,loadCells,loadCellsFrom]
 ·rcases hc with rfl|⟨b,off,rfl,hj⟩
  ·have Kn:min sLen dLen=0:=by simpa using hl.symm
   have Gl:Nat.min sLen dLen=0:=Kn;have tK:w.setRow g (cur.toList.take o ++ []++cur.toList.drop (o+([]:List Value).length)).toArray=w:=by
    simp only[List.append_nil,List.length_nil,Nat.add_zero,List.take_append_drop,Array.toArray_toList];exact setRow_self w g cur t (0,0) hg
   rw[tK];cases ay<;>simp[Builtin.copy_,run_underlying hu,Builtin.lenOf,Builtin.firstCells,sizeOf,typeInfo,hi,hs,Gl,storeCells,loadCells,loadCellsFrom]
  ·exact run_copy_row P w dT sT ty el g o dLen dCap ⟨b,off,none⟩ sLen sCap cur t cs hu (by simp[hi,hs]) hg hl (fun j v hv=>by rw[dV];exact hj j v hv) hf h1
theorem Fo(hT:aY P T){args:Array Operand}{tys:Array TypeId}(hk:dy T e h dst .copy args tys K):∃ ws,K ws/\Out P e h ⟨dst,.call ⟨.builtin .copy,args,tys⟩,ty,pos,after,guard⟩ ws:=by
 simp only[dy]at hk;split at hk;case h_2=>exact hk.elim
 rename_i x y t u ct y6;split at hk;case h_2=>exact hk.elim
 rename_i ei ui id sz off n v ic Ly hx hy;split at hk;case h_2=>exact hk.elim
 rename_i mm es mG;obtain⟨hc,dv⟩:=bw hk;clear hk;simp only[Bool.and_eq_true]at hc;obtain⟨uU,PV,yU⟩:=hc;have uU:=cT uU;have PV:=cT PV;have yU:=cT yU;subst PV yU;obtain⟨fs,vP,hk⟩:=yy dv;clear dv;split at hk;case h_2=>exact hk.elim
 rename_i fs;obtain⟨hc,hk⟩:=bw hk;simp only[Bool.and_eq_true]at hc;obtain⟨hle,J7⟩:=hc;have hle:=kO hle;obtain⟨el,se,GY⟩:=jl hT ic;obtain⟨ie,dd,kA,tC,dA,oK,_⟩:=hT el ei GY;refine⟨_,hk,?_⟩;intro σ cx r m L F st a w he hh hg hd;obtain⟨base,cap,cF,PL,_,hb⟩:=hg.aD (az he hx);have xw:∀ e∈(aI.dd fs).a5,e.length=1/\bU e=true:=xb (es:=.dd fs) J7;have vQ:=hh _ _ mG;obtain⟨_,fv,gf⟩:=hg.heap.obj id _ vQ;obtain⟨ay,LQ,news,Hp,NX,Gm,iZ,tB⟩:=pJ hh hg.heap vP (hg.aD (az he hy)) (fun e he=>(xw e he).1) (Nat.one_pos);have h1:=Gm.one (eK fun e he=>(xw e he).2);have J8:(aI.dd fs).a5.length=fs.length:=by simp[aI.a5,cn]
 rw[J8,Nat.mul_one]at iZ;rw[J8]at Hp;have r9:(aI.dd es).a5.length=es.length:=by simp[aI.a5,cn]
 generalize qQ:min fs.length n=k at hk ⊢;have xq:args.map a.eval = #[.slice base n cap,a.eval y]:=by
  apply Array.ext';simp[ct,cF]
 have IW:tys = #[t,u]:=by
  apply Array.ext';simp[y6]
 have Ay:k<=fs.length:=by omega
 have UJ:k<=n:=by omega
 have DJ:(news.take k).length=k:=by rw[List.length_take,iZ];omega
 have Hi:∀ {α:Type} (l:List α),(l.take off++([]:List α)++l.drop (off+0))=l:=fun l=>by simp
 have Xe:(fs.take k).flatten.length=k:=by
  have:=ir (α:=D) (sz:=1) (es:=fs.take k) (fun e he=>by
   have:=(xw (inj e) (by simp only[aI.a5,cn,List.mem_map];exact⟨e,List.mem_of_mem_take he,rfl⟩)).1
   rwa [dK]at this)
  rw[this,List.length_take];omega
 rcases gf with⟨xy,Xz⟩|⟨l,E,iF,eW,EZ,AE⟩
 ·
  have pg:es = []:=by
   have:=congrArg List.length xy;rw[r9]at this;exact List.length_eq_zero_iff.1 this
  subst pg;have VB:off+n=0:=by simpa using hle
  have Tf:k=0:=by omega
  have Tv:off=0:=by omega
  subst Tf Tv;have Wp:n=0:=by omega
  subst Wp;have tK:(([]:List (List D)).take 0++fs.take 0++([]:List (List D)).drop (0+0)) = []:=by simp
  rw[tK];have hr:(Builtin.copy_ #[t,u] ty #[.slice base 0 cap,a.eval y]).run P w = .ok (goInt 0) w:=by
   rw[Hp];cases base<;>cases ay<;>simp[Builtin.copy_,run_underlying se,Builtin.lenOf,Builtin.firstCells,sizeOf,typeInfo,kA,<- dA,uU,storeCells,loadCells,loadCellsFrom]
  have V1:Good cx r m L F (br st (.obj id (.arr 1 (.dd [])))) a w:=by
   refine hg.zL (fun i=>?_);simp only[br,dt];split
   ·rename_i e;rw[e,vQ]
   ·rfl
  refine⟨goInt 0,w,_,by simp[execOp,resolve,invoke,builtin,xq,IW,hr],.inl rfl,L,F,?_,Tr.refl F w⟩;exact V1.aS (v:=.d (.int .i64 ((0:Nat):Int))) hd rfl
 ·have kW:k=0\/(base=some ⟨L.ρ id,off,none⟩/\off+cap<=L.κ id):=by
   rcases hb with⟨h0,_⟩|⟨h0,h1⟩
   ·exact .inl (by omega)
   ·exact .inr ⟨by simpa using h0,by simpa using h1⟩
  rw[Nat.mul_one]at EZ AE;rw[r9]at EZ AE;have hr:=FJ (P:=P) (w:=w) (ty:=ty) (dT:=t) (sT:=u) se kA (by rw[<- dA,uU]) (base:=base) (ay:=ay) (dLen:=n) (dCap:=cap) (sLen:=fs.length) (sCap:=LQ) (cs:=news.take k)
   (by rw[DJ,qQ]) (by
    rcases tB with h0|⟨b,o,e1,h1⟩
    ·left
     have:fs.length=0:=by rw[<- J8,h0];rfl
     have:k=0:=by omega
     rw[this];rfl
    ·exact .inr ⟨b,o,e1,fun j v hv=>h1 j v (by
      have V9:j<k:=by
       have:=(List.getElem?_eq_some_iff.1 hv).1;rw[DJ]at this;exact this
      rwa [List.getElem?_take_of_lt V9]at hv)⟩)
   (g:=L.ρ id) (o:=off) (cur:=l) (t:=E) (by
    rcases kW with h0|h0
    ·left;rw[h0];rfl
    ·exact .inr h0.1) iF (by rw[DJ];omega) (fun v hv=>h1 v (List.mem_of_mem_take hv))
  rw[<- Hp]at hr;rw[DJ]at hr;have hL:=Array.length_toList (xs:=l);have KG:=fe (cs:=l.toList) (l:=news.take k) (off:=off) (by rw[DJ];omega);rw[DJ]at KG;generalize qP:(l.toList.take off++news.take k++l.toList.drop (off+k)).toArray=c' at hr;have ce:c'.toList=l.toList.take off++news.take k++l.toList.drop (off+k):=by rw[<- qP]
  have u0:c'.size=l.size:=by rw[<- ce]at KG;simpa using KG
  have G0:Good cx r m L F (br st (.obj id (.arr 1 (.dd (es.take off++fs.take k++es.drop (off+k)))))) a (w.setRow (L.ρ id) c')/\Tr F w F (w.setRow (L.ρ id) c'):=by
   by_cases hκ:L.κ id=0
   ·
    have Wh:l.size=0:=by rw[eW,hκ]
    have VX:es = []:=List.length_eq_zero_iff.1 (by omega);subst VX;have VB:off+n=0:=by simpa using hle
    have Tf:k=0:=by omega
    have Tv:off=0:=by omega
    subst Tf Tv;have tK:(([]:List (List D)).take 0++fs.take 0++([]:List (List D)).drop (0+0)) = []:=by simp
    rw[tK];have Ae:c'=l:=by
     rw[<- qP];simp
    rw[Ae,setRow_self w _ _ _ _ iF];refine⟨hg.zL (fun i=>?_),Tr.refl F w⟩;simp only[br,dt];split
    ·rename_i e;rw[e,vQ]
    ·rfl
   ·have tr:Tr F w F (w.setRow (L.ρ id) c'):=
     .gM rfl rfl rfl (by simp) (fun _=>Nat.le_refl _) hg.heap.fresh fun b _ hF=>setRow_other _ _ _ _ (by rintro rfl;have:=(hg.heap.own id _ vQ hκ).1;omega)
    have IQ:(es.take off++fs.take k++es.drop (off+k)).length=es.length:=by
     have:=fe (cs:=es) (l:=fs.take k) (off:=off) (by rw[List.length_take];omega);rw[List.length_take,Nat.min_eq_left Ay]at this;exact this
    refine hg.obj (o:=.arr 1 (.dd (es.take off++fs.take k++es.drop (off+k)))) vQ hκ (w':=w.setRow (L.ρ id) c') rfl rfl rfl (size_setRow _ _ _) (fun b hb=>setRow_other _ _ _ _ hb)
     (by rw[iF];intro ds e;cases e) (by rw[iF];intro lp e;cases e)
     ⟨Nat.one_pos,?_,.inr ⟨c',E,setRow_heap _ _ _ _ _ _ iF,by rw[u0,eW],?_,?_⟩⟩
    ·intro e he
     simp only[aI.a5,cn,List.mem_map,List.mem_append]at he;obtain⟨q,hq,rfl⟩:=he;rcases hq with(hq|hq)|hq
     ·exact fv _ (by simp only[aI.a5,cn,List.mem_map];exact⟨q,List.mem_of_mem_take hq,rfl⟩)
     ·exact(xw _ (by simp only[aI.a5,cn,List.mem_map];exact⟨q,List.mem_of_mem_take hq,rfl⟩)).1
     ·exact fv _ (by simp only[aI.a5,cn,List.mem_map];exact⟨q,List.mem_of_mem_drop hq,rfl⟩)
    ·simp only[aI.a5,cn,List.length_map,IQ,Nat.mul_one,u0];omega
    ·have e0:(aI.dd (es.take off++fs.take k++es.drop (off+k))).a5.length*1=es.length:=by simp only[aI.a5,cn,List.length_map,IQ,Nat.mul_one]
     rw[e0,ce];refine ak.mono tr _ _ (fun _ _=>⟨rfl,rfl⟩) ?_;have e1:(aI.dd (es.take off++fs.take k++es.drop (off+k))).a5.flatten=(aI.dd es).a5.flatten.take off++((aI.dd fs).a5.flatten.take k)++(aI.dd es).a5.flatten.drop (off+k):=by
      have h1:=fm (es:=(aI.dd es).a5) off fv;have h2:=fm (es:=(aI.dd fs).a5) k (fun e he=>(xw e he).1);have h3:=lM (es:=(aI.dd es).a5) (off+k) fv;rw[Nat.mul_one]at h1 h2 h3;rw[<- h1,<- h2,<- h3];simp[aI.a5,cn,List.map_take,List.map_drop]
     rw[e1];have e2:((l.toList.take off++news.take k++l.toList.drop (off+k)).take es.length)=(l.toList.take es.length).take off++news.take k++(l.toList.take es.length).drop (off+(news.take k).length):=by
      have:=rZ (l:=l.toList) (Y:=news.take k) (o:=off) (n:=es.length) (by rw[DJ];omega) (by omega);rw[DJ]at this ⊢;exact this
     rw[e2,DJ];exact((AE.take off).append (Gm.take k)).append (AE.drop (off+k))
  refine⟨goInt k,_,_,by simp[execOp,resolve,invoke,builtin,xq,IW,hr],.inl rfl,L,F,?_,G0.2⟩;exact G0.1.aS (v:=.d (.int .i64 ((k:Nat):Int))) hd rfl
end
end Go.PX
