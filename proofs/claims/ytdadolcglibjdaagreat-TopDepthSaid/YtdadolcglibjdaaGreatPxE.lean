import Derived.Test.YtdadolcglibjdaaGreatPxD
import Derived.Laws.MakeOwn
set_option linter.all false
namespace Go.PX
open Go.RowKit
section
variable {P : Program} {T : dV} {e : Env} {h : aq} {dst : Option Nat} {K : List Wr -> Prop} {ty : TypeId} {pos : String} {after : Array Edge} {guard : Option (Nat × Bool)}
theorem Fm(hT:bl P T){t:TypeId}{x:Operand}(hk:fK T e h dst (.range t x) K):∃ ws,K ws/\Out P e h ⟨dst,.range t x,ty,pos,after,guard⟩ ws:=by
 simp only[fK]at hk;split at hk;case h_3=>exact hk.elim
 case h_2=>
  rename_i ti id d ht hx;split at hk;case h_2=>exact hk.elim
  rename_i mk me b0 dw dR;obtain⟨ef,hk⟩:=bA hk;have ef:id≠d:=by rintro rfl;simp at ef
  obtain⟨de,fB,dC⟩:=dy hT ht;rw[dw]at dC;have:=rm dC.symm;subst this;refine⟨_,hk,?_⟩;intro σ cx r m L F st a w he hh hg hd;have cF:a.eval x = .map (some (L.ρ id)):=hg.aH (ax he hx);obtain⟨en,c,hb,hr,ql⟩:=hg.heap.obj id _ (hh _ _ dR);have hl:c=b0.length:=by rw[ql.1];simpa using bE.get hr
  have tr:Tr F w F (w.alloc (.mapIter (some (L.ρ id)) c #[] c)):=Tr.alloc hg.heap.fresh _;have pL:=hg.new d 0 (.mit (.mp id) b0.length (List.range b0.length) none) (.mapIter (some (L.ρ id)) c #[] c) (hg.dN (hd d rfl))
   ⟨L.ρ id,#[],by show Value.map (some _) = .map (some _);simp[ef],by show(w.alloc _).heap[if d=d then w.heap.size else L.ρ d]?=_;rw[if_pos rfl,heap_alloc_new w _,hl],(fun i=>by simp),fun i e=>by cases e⟩
  refine⟨.pointer (some ⟨w.heap.size,0,none⟩),_,_,?_,.inl rfl,_,F,pL.set (v:=.it d) (hd d rfl) (by show Value.pointer _=Value.pointer _;simp),tr⟩;simp[execOp,cF,Instr.range,run_underlying fB,getObj,Sem.run,hb]
 rename_i ti s d ht hx;split at hk;case h_2=>exact hk.elim
 rename_i dw;obtain⟨de,fB,dC⟩:=dy hT ht;rw[dw]at dC;have:=im dC.symm;subst this;refine⟨_,hk,?_⟩;intro σ cx r m L F st a w he hh hg hd;have cF:=km hg he hx;have tr:Tr F w F (w.alloc (.stringIter s 0)):=Tr.alloc hg.heap.fresh _;have pL:=hg.new d 0 (.iter s 0) (.stringIter s 0) (hg.dN (hd d rfl)) (by show(w.alloc _).heap[if d=d then w.heap.size else L.ρ d]?=_;rw[if_pos rfl];exact heap_alloc_new w _);refine⟨.pointer (some ⟨w.heap.size,0,none⟩),_,_,?_,.inl rfl,_,F,pL.set (v:=.it d) (hd d rfl) (by show Value.pointer _=Value.pointer _;simp),tr⟩;simp[execOp,cF,Instr.range,run_underlying fB]
theorem Hv{σ:Type}{cx:Cx σ}{r:Option Nat}{m:List Nat}{L:Loc}{F:Nat->Nat}{st:St σ}{a:Act}{w:World}(hg:Good cx r m L F st a w){h:aq}(hh:cN h st.heap){v:V}{b0:List (D×D)}(zh:JF h v=some b0){rb:Nat}(hv:aT cx.yv L F w v (.map (some rb))) :
  ∃ en c,w.heap[rb]?=some (.map en c)/\bE F w b0 en.toList/\qF en c:=by
 unfold JF at zh;split at zh;case h_2=>cases zh
 rename_i mm;split at zh;case h_2=>cases zh
 rename_i rp SC;cases zh;have hv:Value.map (some rb) = .map (some (L.ρ mm)):=hv;simp only[Value.map.injEq,Option.some.injEq]at hv;rw[hv];exact hg.heap.obj mm _ (hh _ _ SC)
theorem Fj{x:Operand}(hk:fK T e h dst (.entry x) K):∃ ws,K ws/\Out P e h ⟨dst,.entry x,ty,pos,after,guard⟩ ws:=by
 simp only[fK]at hk;split at hk;case h_2=>exact hk.elim
 rename_i id hx;split at hk;case h_2=>exact hk.elim
 rename_i v n todo i dR;split at hk;case h_2=>exact hk.elim
 rename_i b0 zh;obtain⟨hn,⟨k,u⟩,hi,hk⟩:=hk;refine⟨_,hk,bj (v:=.d (.tup [k,u])) (o:=⟨dst,.entry x,ty,pos,after,guard⟩) fun cx r m L F st a w he hh hg=>?_⟩;have cF:a.eval x = .pointer (some ⟨L.ρ id,0,none⟩):=hg.aH (ax he hx);obtain⟨rb,seen,hv,hb,_,VP⟩:=hg.heap.obj id _ (hh _ _ dR);obtain⟨en,c,hm,hr,ql⟩:=Hv hg hh zh hv;have lU:=VP i rfl;have NC:c=n:=by
  rw[ql.1,<- hn];simpa using bE.get hr
 have Cm:i<en.size:=by
  have:=(List.getElem?_eq_some_iff.1 hi).1;have h2:=bE.get hr;simp at h2;omega
 obtain⟨k',u',Sz,pM,WG⟩:=bE.at hr (i:=i) (e:=en[i]) (by simp[Cm]);rw[hi]at Sz;cases Sz;have GZ:en.find? (·.born ==i)=some en[i]:=by
  rw[Array.find?_eq_some_iff_getElem];have qk:=ql.2 i _ (Array.getElem?_eq_getElem Cm);refine⟨by simp[qk],i,Cm,rfl,fun j hj=>?_⟩;have:=ql.2 j _ (Array.getElem?_eq_getElem (by omega));simp[this];omega
 refine⟨.tuple #[en[i].key,en[i].val],?_,⟨_,rfl,_,_,rfl,pM,_,_,rfl,WG,rfl⟩⟩;simp[execOp,cF,Instr.entry,getObj,Sem.run,Sem.run_bind,hb,lU,hm,NC,GZ]
theorem HQ{x:Operand}{b:Bool}(hk:fK T e h dst (.next x b) K):∃ ws,K ws/\Out P e h ⟨dst,.next x b,ty,pos,after,guard⟩ ws:=by
 simp only[fK]at hk;split at hk;case h_2=>exact hk.elim
 rename_i id hx;split at hk;case h_2=>exact hk.elim
 rename_i s p hs;rcases uM hk with⟨hb,⟨hk⟩⟩|⟨hb,hk⟩
 ·have hb:=of_decide_eq_true hb
  refine⟨_,hk,?_⟩;intro σ cx r m L F st a w he hh hg hd;have cF:a.eval x = .pointer (some ⟨L.ρ id,0,none⟩):=hg.aH (ax he hx);have h0:=hh _ _ hs;have qk:w.heap[L.ρ id]?=some (.stringIter s p):=hg.heap.obj id _ h0;have dI:=(Array.getElem?_eq_some_iff.1 qk).1;obtain⟨g1,g2⟩:=hg.obj (o:=.iter s (p+(Utf8.decode s p).2)) h0 trivial (w':={ w with heap:=w.heap.setIfInBounds (L.ρ id) (.stringIter s (p+(Utf8.decode s p).2)) }) rfl rfl rfl (by simp) (fun y hy=>by simp[Array.getElem?_setIfInBounds_ne (Ne.symm hy)])
   (by rw[qk];intro ds e;cases e) (by rw[qk];intro lp e;cases e) (by show _=_;simp[Array.getElem?_setIfInBounds,dI])
  refine⟨.tuple #[.bool true,.int .i64 p,.int .i32 (Utf8.decode s p).1],_,_,?_,.inl rfl,L,F,?_,g2⟩
  ·simp only[execOp,cF,Instr.next,getObj,setObj,Sem.run_bind,Sem.run,qk,Result.andThen]
   simp[hb,Sem.run,qk,goInt]
  ·cases dst with
   | none=>exact g1
   | some d=>exact g1.set (hd d rfl) ⟨_,rfl,⟨_,_,rfl,rfl,_,_,rfl,rfl,_,_,rfl,rfl,rfl⟩⟩
 ·have hb:=of_decide_eq_false hb
  refine⟨_,hk,bj (o:=⟨dst,.next x true,ty,pos,after,guard⟩) fun cx r m L F st a w he hh hg=>?_⟩;have cF:a.eval x = .pointer (some ⟨L.ρ id,0,none⟩):=hg.aH (ax he hx);have qk:w.heap[L.ρ id]?=some (.stringIter s p):=hg.heap.obj id _ (hh _ _ hs);refine⟨_,?_,⟨_,rfl,⟨_,_,rfl,rfl,rfl⟩⟩⟩;simp only[execOp,cF,Instr.next,getObj,Sem.run_bind,Sem.run,qk,Result.andThen];simp[hb,Sem.run]
theorem Bp{t:TypeId}{x:Option Operand}(hk:fK T e h dst (.makeMap t x) K):∃ ws,K ws/\Out P e h ⟨dst,.makeMap t x,ty,pos,after,guard⟩ ws:=by
 simp only[fK]at hk;split at hk;case h_2=>exact hk.elim
 rename_i d;refine⟨_,hk,?_⟩;intro σ cx r m L F st a w he hh hg hd;have tr:Tr F w F (w.alloc (.map #[] 0)):=Tr.alloc hg.heap.fresh _;have pL:=hg.new d 0 (.map []) (.map #[] 0) (hg.dN (hd d rfl)) ⟨#[],0,by show(w.alloc _).heap[if d=d then w.heap.size else L.ρ d]?=_;rw[if_pos rfl];exact heap_alloc_new w _,rfl,rfl,by intro i e h;simp at h⟩;refine⟨.map (some w.heap.size),_,_,?_,.inl rfl,_,F,pL.set (v:=.mp d) (hd d rfl) (by show Value.map _=Value.map _;simp),tr⟩;simp[execOp,Instr.makeMap]
inductive Ks(P:Program)(T:dV)(kt:TypeId)(k:D):Prop where
 | plain (dk:TypeDesc) (hk:P.underlying kt=some dk) (ze:(∃ k,dk = .int k)\/dk = .string\/dk = .bool) (sk:rn T kt (iT dk) k=true)
 | wide (dk:TypeDesc) (cs:List D) (n:Nat) (hk:P.underlying kt=some dk) (nB:∃ ti,T.get kt=some ti/\ti.isAgg=true) (ze:∀ x y,Instr.sameNow dk x y=none) (hc:k = .agg cs) (hf:flat T 9 kt=some n) (hl:cs.length=n) (hi:pq T 9 kt cs=true)
theorem uk(hT:bl P T){t kt:TypeId}{ki ei:pF}(h:mapOf T t=some (kt,(ki,ei))):∃ el,P.underlying t=some (.map kt el)/\T.get kt=some ki/\T.get el=some ei:=by
 unfold mapOf at h;split at h;case h_2=>cases h
 rename_i ti ht;split at h;case h_2=>cases h
 rename_i kt el dw;obtain⟨de,fB,dC⟩:=dy hT ht;rw[dw]at dC;have:=rm dC.symm;subst this;split at h;case h_2=>cases h
 rename_i ki' Yn EN iF;cases h;exact⟨el,fB,EN,iF⟩
theorem zp(hT:bl P T){kt:TypeId}{ki:pF}(EN:T.get kt=some ki){k:D}(h:rn T kt ki.kd k=true):Ks P T kt k:=by
 obtain⟨i,dk,hi,ze,_,_,iQ,nB,_⟩:=hT kt ki EN
 cases dw:ki.kd with
 | int q=>
  have:=lX (iQ.symm.trans dw);subst this;exact .plain _ ze (.inl ⟨_,rfl⟩) (by rw[dw]at h;exact h)
 | str=>
  have:=im (iQ.symm.trans dw);subst this;exact .plain _ ze (.inr (.inl rfl)) (by rw[dw]at h;exact h)
 | bool=>
  have:=oV (iQ.symm.trans dw);subst this;exact .plain _ ze (.inr (.inr rfl)) (by rw[dw]at h;exact h)
 | struct fs=>
  rw[dw]at h;obtain⟨fa,rfl,_⟩:=gR (iQ.symm.trans dw);cases k<;>simp only[rn]at h<;>try (cases h;done)
  split at h;case h_2=>cases h
  rename_i n hn;simp only[Bool.and_eq_true]at h;exact .wide _ _ n ze ⟨ki,EN,nB⟩ (fun x y=>by cases x<;>cases y<;>rfl) rfl hn (da h.1) h.2
 | array m e=>
  rw[dw]at h;have:=ek (iQ.symm.trans dw);subst this;cases k<;>simp only[rn]at h<;>try (cases h;done)
  split at h;case h_2=>cases h
  rename_i n hn;simp only[Bool.and_eq_true]at h;exact .wide _ _ n ze ⟨ki,EN,nB⟩ (fun x y=>by cases x<;>cases y<;>rfl) rfl hn (da h.1) h.2
 | _=>rw[dw]at h;cases k<;>simp only[rn]at h<;>cases h
theorem Gh(a b:ByteArray):(a ==b)=decide (a=b):=by
 have h:(a ==b)=(a.data ==b.data):=by cases a;cases b;rfl
 rw[h];by_cases BU:a=b
 ·subst BU;simp
 ·have:a.data≠b.data:=fun e=>BU (by cases a;cases b;simp only at e;rw[e])
  simp[BU,this]
theorem Ka{F:Nat->Nat}{w:World}{kt:TypeId}{dk:TypeDesc}(ze:(∃ k,dk = .int k)\/dk = .string\/dk = .bool){k:D}{x:Value}(hx:bD F w k x)(sk:rn T kt (iT dk) k=true)(k':D)(y:Value)(r:Bool)(h:gY k k'=some r)(hy:bD F w k' y):Instr.sameNow dk x y=some r:=by
 cases k<;>cases k'<;>simp only[gY]at h<;>try (cases h;done)
 ·cases hx;cases hy
  cases h;rcases ze with⟨_,rfl⟩|rfl|rfl<;>simp[rn,iT]at sk
  rfl
 ·cases hx;cases hy
  rename_i k1 a k2 b;split at h
  ·rename_i he
   have he:=of_decide_eq_true he;cases h;rcases ze with⟨_,rfl⟩|rfl|rfl<;>simp[rn,iT]at sk
   simp[Instr.sameNow,he];rfl
  ·cases h
 ·cases hx;cases hy
  cases h;rcases ze with⟨_,rfl⟩|rfl|rfl<;>simp[rn,iT]at sk
  show some (_ ==_)=_;rename_i a b
  congr 1
  exact Gh _ _
 ·rcases ze with⟨_,rfl⟩|rfl|rfl<;>simp[rn,iT]at sk
def Found(F:Nat->Nat)(w:World)(k:D)(es:List MapEntry)(n:Nat)(r:Option (Nat×D))(q:Option (Nat×Value)):Prop:=
 match r,q with
 | none,none=>True
 | some (i,v),some (j,u)=>i=j/\bD F w v u/\n<=i/\i<n+es.length /\ ∃ en,es[i-n]?=some en /\ ∃ kk,bD F w kk en.key/\gY k kk=some true
 | _,_=>False
theorem xv{F:Nat->Nat}{w:World}{kd:TypeDesc}{k:D}{x:Value}(hx:bD F w k x)(lW:∀ (k':D) (y:Value) (r:Bool),gY k k'=some r->bD F w k' y->Instr.sameNow kd x y=some r) :
  ∀ {b0:List (D×D)} {es:List MapEntry} {n:Nat} {r:Option (Nat×D)},findD k b0 n=some r->bE F w b0 es ->
   ∃ q,Instr.findNow kd x es n=some q/\Found F w k es n r q
 | [],es,n,r,h,hr=>by
  have hr:es = []:=hr;subst hr;simp only[findD,Option.some.injEq]at h;subst h;exact⟨none,rfl,trivial⟩
 | (k',v)::kr,es,n,r,h,hr=>by
  obtain⟨en,es',rfl,hk,hv,hr⟩:=hr;simp only[findD]at h;split at h
  ·rename_i hs
   cases h;refine⟨some (n,en.val),?_,rfl,hv,Nat.le_refl _,by simp,en,by simp,k',hk,hs⟩;simp only[Instr.findNow,lW k' en.key true hs hk]
  ·rename_i hs
   obtain⟨q,h1,h2⟩:=xv hx lW h hr;refine⟨q,?_,?_⟩
   ·simp only[Instr.findNow,lW k' en.key false hs hk];exact h1
   ·match r,q,h2 with
    | none,none,_=>trivial
    | some (i,v),some (j,u),⟨p1,p2,p3,p4,en',p5,p6⟩=>
     refine⟨p1,p2,by omega,by simp;omega,en',?_,p6⟩;have:i-n=(i-(n+1))+1:=by omega
     rw[this,List.getElem?_cons_succ];exact p5
  ·cases h
theorem xu{F:Nat->Nat}{w:World}{kt:TypeId}{k:D}{x:Value}(hx:bD F w k x)(lW:∀ (k':D) (y:Value) (r:Bool),gY k k'=some r->bD F w k' y->(Op.equal kt x y).run P w = .ok r w) :
  ∀ {b0:List (D×D)} {es:List MapEntry} {n:Nat} {r:Option (Nat×D)},findD k b0 n=some r->bE F w b0 es ->
   ∃ q,(Instr.findAsking kt x es n).run P w = .ok q w/\Found F w k es n r q
 | [],es,n,r,h,hr=>by
  have hr:es = []:=hr;subst hr;simp only[findD,Option.some.injEq]at h;subst h;exact⟨none,by simp[Instr.findAsking],trivial⟩
 | (k',v)::kr,es,n,r,h,hr=>by
  obtain⟨en,es',rfl,hk,hv,hr⟩:=hr;simp only[findD]at h;split at h
  ·rename_i hs
   cases h;refine⟨some (n,en.val),?_,rfl,hv,Nat.le_refl _,by simp,en,by simp,k',hk,hs⟩;simp[Instr.findAsking,lW k' en.key true hs hk]
  ·rename_i hs
   obtain⟨q,h1,h2⟩:=xu hx lW h hr;refine⟨q,?_,?_⟩
   ·simp[Instr.findAsking,lW k' en.key false hs hk,h1]
   ·match r,q,h2 with
    | none,none,_=>trivial
    | some (i,v),some (j,u),⟨p1,p2,p3,p4,en',p5,p6⟩=>
     refine⟨p1,p2,by omega,by simp;omega,en',?_,p6⟩;have:i-n=(i-(n+1))+1:=by omega
     rw[this,List.getElem?_cons_succ];exact p5
  ·cases h
theorem sH:∀ {a b c d:List D},cv a b=some true->cv c d=some true->cv (a++c) (b++d)=some true
 | [],[],_,_,_,h=>h
 | [],_::_,_,_,h,_=>by simp[cv]at h
 | _::_,[],_,_,h,_=>by simp[cv]at h
 | x::a,y::b,c,d,h,k=>by
  simp only[cv]at h;split at h;case h_2=>cases h
  rename_i p q hp hq;simp only[Option.some.injEq,Bool.and_eq_true]at h;obtain⟨rfl,rfl⟩:=h;simp[cv,hp,sH hq k]
theorem xy{T:dV}:∀ (d:Nat) (t:TypeId) (n:Nat),flat T d t=some n -> ∃ ti,T.get t=some ti/\ti.size=n
 | 0,_,_,h=>by simp[flat]at h
 | d+1,t,n,h=>by
  simp only[flat]at h;split at h
  ·cases h
  rename_i ti fk;refine⟨ti,fk,?_⟩;split at h
  ·split at h
   ·rename_i hs;cases h;exact Nat.eq_of_beq_eq_true hs
   ·cases h
  ·split at h
   ·rename_i hs;cases h;exact Nat.eq_of_beq_eq_true hs
   ·cases h
  ·split at h
   ·rename_i hs;cases h;exact Nat.eq_of_beq_eq_true hs
   ·cases h
  ·split at h
   ·split at h
    ·rename_i hs;cases h;exact Nat.eq_of_beq_eq_true hs
    ·cases h
   ·cases h
  ·split at h
   ·split at h
    ·rename_i hs;cases h;exact Nat.eq_of_beq_eq_true hs
    ·cases h
   ·cases h
  ·cases h
theorem uS{T:dV}{f:TypeId->Option Nat}{g:TypeId->List D->Bool}(hf:∀ t c xs,f t=some c->(∃ ti,T.get t=some ti/\ti.size=c)/\(xs.length=c->g t xs=true->cv xs xs=some true)):∀ (fs:List (Nat×TypeId)) (n m:Nat) (xs:List D),nR f fs n=some m->xs.length=m->xw T g fs xs=true->n<=m/\cv (xs.drop n) (xs.drop n)=some true
 | [],n,m,xs,h,hl,_=>by
  simp only[nR,Option.some.injEq]at h;subst h;rw[List.drop_eq_nil_of_le (by omega)];exact⟨Nat.le_refl _,rfl⟩
 | (off,t)::r,n,m,xs,h,hl,hk=>by
  simp only[nR]at h;split at h;case h_2=>cases h
  rename_i c nq hc;have nq:=Nat.eq_of_beq_eq_true nq;subst nq;obtain⟨⟨ti,fk,cY⟩,_⟩:=hf t (c+1) xs hc;simp only[xw,fk]at hk;split at hk;case h_2=>cases hk
  rename_i dC;obtain⟨h1,h2⟩:=uS hf r _ m xs h hl hk;rw[cY]at dC;have h3:=(hf t (c+1) ((xs.drop off).take (c+1)) hc).2 (by simp;omega) dC;refine⟨by omega,?_⟩;have h4:=sH h3 h2
  rwa [<- List.drop_drop,List.take_append_drop]at h4
theorem uT{g:List D->Bool}{c:Nat}(hg:∀ xs:List D,xs.length=c->g xs=true->cv xs xs=some true):∀ (n:Nat) (xs:List D),xs.length=n*c->xx g c n xs=true->cv xs xs=some true
 | 0,xs,hl,_=>by
  have:xs = []:=List.length_eq_zero_iff.1 (by simpa using hl);subst this;rfl
 | n+1,xs,hl,hk=>by
  rw[Nat.succ_mul]at hl;simp only[xx]at hk;split at hk;case h_2=>cases hk
  rename_i dC;have h1:=hg (xs.take c) (by simp;omega) dC;have h2:=uT hg n (xs.drop c) (by simp;omega) hk;have h3:=sH h1 h2
  rwa [List.take_append_drop]at h3
theorem uU{T:dV}:∀ (d:Nat) (t:TypeId) (xs:List D) (n:Nat),flat T d t=some n->xs.length=n->pq T d t xs=true->cv xs xs=some true
 | 0,_,_,_,h,_,_=>by simp[flat]at h
 | d+1,t,xs,n,h,hl,hk=>by
  simp only[flat]at h;split at h
  ·cases h
  rename_i ti fk;simp only[pq,fk]at hk;split at h
  ·rename_i dw
   simp only[dw]at hk;split at hk
   ·simp[cv,nm]
   ·cases hk
  ·rename_i dw
   simp only[dw]at hk;split at hk
   ·simp[cv,nm]
   ·cases hk
  ·rename_i dw
   simp only[dw]at hk;split at hk
   ·simp[cv,nm,tE]
   ·cases hk
  ·rename_i fs dw
   simp only[dw]at hk;split at h;case h_2=>cases h
   rename_i m _ hm;split at h;case h_2=>cases h
   cases h;have:=(uS (T:=T) (f:=fun t=>flat T d t) (g:=fun t xs=>pq T d t xs) (fun t c xs hc=>⟨xy d t c hc,fun hl hk=>uU d t xs c hc hl hk⟩) fs 0 _ xs hm hl hk).2;simpa using this
  ·rename_i m e dw
   simp only[dw]at hk;split at h;case h_2=>cases h
   rename_i c hc;split at h;case h_2=>cases h
   cases h;obtain⟨ei,iF,nC⟩:=xy d e (c+1) hc;simp only[iF,nC]at hk;exact uT (fun xs hl hk=>uU d e xs _ hc hl hk) m xs hl hk
  ·cases h
theorem lh(hT:bl P T){F:Nat->Nat}{w:World}{kt:TypeId}{k:D}{x:Value}(ho:Ks P T kt k)(hx:bD F w k x){b0:List (D×D)}{es:List MapEntry}{r:Option (Nat×D)}(hf:findD k b0 0=some r)(hr:bE F w b0 es) :
  (∀ b,(Instr.checkKey b 10000 kt x).run P w = .ok () w) /\ ∃ q,(Instr.findKey kt x es).run P w = .ok q w/\Found F w k es 0 r q:=by
 cases ho with
 | plain dk hk ze sk=>
  obtain⟨q,hq,hm⟩:=xv hx (Ka ze hx sk) hf hr;refine⟨fun b=>?_,q,by simp[Instr.findKey,run_underlying hk,hq],hm⟩;rw[show(10000:Nat)=9999+1 from rfl];unfold Instr.checkKey;rcases ze with⟨k,rfl⟩|rfl|rfl<;>simp[run_underlying hk]
 | wide dk cs n hk nB ze hc Ms hl hi=>
  subst hc;obtain⟨lx,rfl,qE⟩:=hx;obtain⟨ti,fk,nB⟩:=nB;have tP:∀ (zs:List D) (l:Array Value),aS F w zs l.toList->nH T F w kt zs (.agg l):=fun zs l hl WZ vg=>by
   rw[fk]at vg;cases vg;rw[nB];exact⟨l,rfl,hl⟩
  have mE:∀ N,9<=N->yA P T F w N 9 kt n:=fun N hN=>qh hT 9 kt n Ms N hN;refine⟨fun b=>((mE 10000 (by decide)).2 cs cs true hl hi (uU 9 kt cs n Ms hl hi) _ _ (tP _ _ qE) (tP _ _ qE)).2 b,?_⟩;have lW:∀ (k':D) (y:Value) (r:Bool),gY (.agg cs) k'=some r->bD F w k' y->(Op.equal kt (.agg lx) y).run P w = .ok r w:=by
   intro k' y r hs hy;cases k'<;>simp only[gY]at hs<;>try (cases hs;done)
   obtain⟨ly,rfl,sn⟩:=hy;exact((mE Op.maxDepth (by decide)).2 cs _ r hl hi hs _ _ (tP _ _ qE) (tP _ _ sn)).1
  obtain⟨q,hq,hm⟩:=xu (P:=P) (kt:=kt) (k:=.agg cs) (x:=.agg lx) ⟨lx,rfl,qE⟩ lW hf hr
  cases nC:es with
  | nil=>
   subst nC;have:b0 = []:=by
    cases b0 with
    | nil=>rfl
    | cons p r=>obtain⟨_,_,h,_⟩:=hr;cases h
   subst this;simp only[findD,Option.some.injEq]at hf;subst hf;exact⟨none,by simp[Instr.findKey,run_underlying hk,Instr.findNow],trivial⟩
  | cons en es'=>
   rw[<- nC];refine⟨q,?_,hm⟩;have:Instr.findNow dk (.agg lx) es 0=none:=by rw[nC];simp[Instr.findNow,ze]
   simp[Instr.findKey,run_underlying hk,this,hq]
theorem rV{F:Nat->Nat}{w:World}(hT:bl P T){el:TypeId}{ei:pF}(iF:T.get el=some ei){z:D}(hz:wz ei=some z):∃ zv,(zeroValue el).run P w = .ok zv w/\bD F w z zv:=by
 obtain⟨i,d,hi,hd,_,_,_,_,_,Cu⟩:=hT el ei iF;unfold wz at hz;split at hz
 ·rename_i l hl ha
  cases hz;obtain⟨zv,E0,wP,nB⟩:=Cu _ hl;refine⟨zv,by simp[zeroValue,typeInfo,hi,E0],?_⟩;rw[ha]at nB;unfold zeroCells at wP;unfold En at nB;split at nB
  ·rename_i l' ho
   rw[ho]at wP;cases wP;exact mi ho
  ·cases nB
 ·rename_i l hl ha
  cases hz;obtain⟨zv,E0,wP,nB⟩:=Cu _ hl;refine⟨zv,by simp[zeroValue,typeInfo,hi,E0],?_⟩;rw[ha]at nB;unfold zeroCells at wP;unfold En at nB;split at wP
  ·rename_i l' ho;rw[ho]at nB;cases nB
  ·cases wP
  ·rename_i v _ _ ho
   cases wP;exact mi ho
  ·cases wP
 ·cases hz
theorem ov{d:TypeDesc}(h:sy (iT d)=true):∀ ms,d ≠ .interface ms:=by
 rintro ms rfl;cases h
theorem rE(hT:bl P T){t:TypeId}{x:Operand}(hk:fK T e h dst (.makeInterface t x) K):∃ ws,K ws/\Out P e h ⟨dst,.makeInterface t x,ty,pos,after,guard⟩ ws:=by
 simp only[fK]at hk;split at hk;case h_3=>exact hk.elim
 ·rename_i ti v ht hx
  obtain⟨hp,hk⟩:=bA hk;obtain⟨de,fB,dC⟩:=dy hT ht;rw[dC]at hp;have AR:=ov hp;refine⟨_,hk,bj (v:=.d (.ifc t v)) (o:=⟨dst,.makeInterface t x,ty,pos,after,guard⟩) fun cx r m L F st a w he hh hg=>⟨.iface t (a.eval x),?_,⟨_,rfl,hg.aH (ax he hx)⟩⟩⟩;cases de<;>first|exact absurd rfl (AR _)|simp[execOp,Instr.makeInterface,run_underlying fB]
 ·rename_i ti v _ ht hx
  obtain⟨hp,hk⟩:=bA hk;obtain⟨de,fB,dC⟩:=dy hT ht;rw[dC]at hp;have AR:=ov hp;refine⟨_,hk,bj (v:=.ifc t [v]) (o:=⟨dst,.makeInterface t x,ty,pos,after,guard⟩) fun cx r m L F st a w he hh hg=>⟨.iface t (a.eval x),?_,⟨#[a.eval x],rfl,_,_,rfl,hg.aH (ax he hx),rfl⟩⟩⟩;cases de<;>first|exact absurd rfl (AR _)|simp[execOp,Instr.makeInterface,run_underlying fB]
theorem oY{yv:Option Nat}{L:Loc}{F:Nat->Nat}{w:World}{c b:Bool}{v:D}{x:Value}(h:bD F w v x):aT yv L F w (ni c v b) (if c=true then .tuple #[x,.bool b] else x):=by
 cases c
 ·exact h
 ·exact⟨_,rfl,_,_,rfl,h,_,_,rfl,rfl,rfl⟩
theorem E4{yv:Option Nat}{L:Loc}{F:Nat->Nat}{w:World}{c b:Bool}{v:V}{x:Value}(h:aT yv L F w v x):aT yv L F w (lookW c v b) (if c=true then .tuple #[x,.bool b] else x):=by
 cases c
 ·exact h
 ·exact⟨_,rfl,_,_,rfl,h,_,_,rfl,rfl,rfl⟩
theorem aT.ifc{yv:Option Nat}{L:Loc}{F:Nat->Nat}{w:World}{t:TypeId}{v:V}{x:Value}(h:aT yv L F w (.ifc t [v]) x):∃ y,x = .iface t y/\aT yv L F w v y:=by
 obtain⟨l,rfl,y,r,h1,h2,h3⟩:=h;refine⟨y,?_,h2⟩;have:l.toList = [y]:=by rw[h1,show r = [] from h3]
 rw[<- Array.toArray_toList (xs:=l),this];rfl
theorem vP(hT:bl P T){x:Operand}{xt jz:TypeId}{c:Bool}(hk:fK T e h dst (.typeAssert x xt jz c) K):∃ ws,K ws/\Out P e h ⟨dst,.typeAssert x xt jz c,ty,pos,after,guard⟩ ws:=by
 simp only[fK]at hk;split at hk;case h_4=>exact hk.elim
 ·rename_i ti t v ht hx
  obtain⟨hp,iQ⟩:=bA hk;clear hk;obtain⟨de,fB,dC⟩:=dy hT ht;rw[dC]at hp;have AR:=ov hp;split at iQ
  ·rename_i Iz
   have:=Nat.eq_of_beq_eq_true Iz;subst this;refine⟨_,iQ,bj (v:=ni c v true) (o:=⟨dst,.typeAssert x xt t c,ty,pos,after,guard⟩) fun cx r m L F st a w he hh hg=>?_⟩;obtain⟨y,hy,hr⟩:=hg.aH (ax he hx);refine⟨if c=true then .tuple #[y,.bool true] else y,?_,oY hr⟩;cases de<;>first|exact absurd rfl (AR _)|simp[execOp,Instr.typeAssert,run_underlying fB,hy]
  ·rename_i Iz
   have ef:t≠jz:=by rintro rfl;simp at Iz
   split at iQ;case h_2=>exact iQ.elim
   rename_i _ _ z hz;refine⟨_,iQ,bj (v:=ni true z false) (o:=⟨dst,.typeAssert x xt jz true,ty,pos,after,guard⟩) fun cx r m L F st a w he hh hg=>?_⟩;obtain⟨y,hy,hr⟩:=hg.aH (ax he hx);obtain⟨zv,BZ,IE⟩:=rV (F:=F) (w:=w) hT ht hz;refine⟨.tuple #[zv,.bool false],?_,oY (c:=true) IE⟩;cases de<;>first|exact absurd rfl (AR _)|simp[execOp,Instr.typeAssert,run_underlying fB,hy,ef,BZ]
 ·rename_i ti ht hx
  obtain⟨hp,iQ⟩:=bA hk;clear hk;obtain⟨de,fB,dC⟩:=dy hT ht;rw[dC]at hp;have AR:=ov hp;split at iQ;case h_2=>exact iQ.elim
  rename_i _ _ z hz;refine⟨_,iQ,bj (v:=ni true z false) (o:=⟨dst,.typeAssert x xt jz true,ty,pos,after,guard⟩) fun cx r m L F st a w he hh hg=>?_⟩;have hy:a.eval x = .nilIface:=hg.aH (ax he hx);obtain⟨zv,BZ,IE⟩:=rV (F:=F) (w:=w) hT ht hz;refine⟨.tuple #[zv,.bool false],?_,oY (c:=true) IE⟩;cases de<;>first|exact absurd rfl (AR _)|simp[execOp,Instr.typeAssert,run_underlying fB,hy,BZ]
 ·rename_i ti t v ht hx
  obtain⟨hp,iQ⟩:=bA hk;clear hk;obtain⟨de,fB,dC⟩:=dy hT ht;rw[dC]at hp;have AR:=ov hp;split at iQ
  ·rename_i Iz
   have:=Nat.eq_of_beq_eq_true Iz;subst this;refine⟨_,iQ,bj (v:=lookW c v true) (o:=⟨dst,.typeAssert x xt t c,ty,pos,after,guard⟩) fun cx r m L F st a w he hh hg=>?_⟩;obtain⟨y,hy,hr⟩:=(hg.aH (ax he hx)).ifc;refine⟨if c=true then .tuple #[y,.bool true] else y,?_,E4 hr⟩;cases de<;>first|exact absurd rfl (AR _)|simp[execOp,Instr.typeAssert,run_underlying fB,hy]
  ·rename_i Iz
   have ef:t≠jz:=by rintro rfl;simp at Iz
   split at iQ;case h_2=>exact iQ.elim
   rename_i _ _ z hz;refine⟨_,iQ,bj (v:=ni true z false) (o:=⟨dst,.typeAssert x xt jz true,ty,pos,after,guard⟩) fun cx r m L F st a w he hh hg=>?_⟩;obtain⟨y,hy,hr⟩:=(hg.aH (ax he hx)).ifc;obtain⟨zv,BZ,IE⟩:=rV (F:=F) (w:=w) hT ht hz;refine⟨.tuple #[zv,.bool false],?_,oY (c:=true) IE⟩;cases de<;>first|exact absurd rfl (AR _)|simp[execOp,Instr.typeAssert,run_underlying fB,hy,ef,BZ]
theorem CS(hT:bl P T){t:TypeId}{x i:Operand}{c:Bool}(hk:fK T e h dst (.lookup t x i c) K):∃ ws,K ws/\Out P e h ⟨dst,.lookup t x i c,ty,pos,after,guard⟩ ws:=by
 simp only[fK]at hk;split at hk;case h_2=>exact hk.elim
 rename_i kt ki ei b0 k hm zh hi;obtain⟨Jk,⟨r,hf,hk⟩⟩:=bA hk;obtain⟨el,h1,h3,h5⟩:=uk hT hm;have G6:=zp hT h3 Jk;have lV:∀ {σ:Type} (cx:Cx σ) (r:Option Nat) (m:List Nat) (L:Loc) (F:Nat->Nat) (st:St σ) (a:Act) (w:World),cN e st.env->cN h st.heap->Good cx r m L F st a w ->
   ∃ es:List MapEntry,bE F w b0 es/\((a.eval x = .map none/\es = []) \/ ∃ b en cl,a.eval x = .map (some b)/\w.heap[b]?=some (.map en cl)/\en.toList=es):=by
  intro σ cx r m L F st a w he hh hg;unfold Lb at zh;split at zh
  ·rename_i rp hx
   cases zh;obtain⟨b,en,cl,cF,hF,hb,hr⟩:=hg.aH (ax he hx);exact⟨en.toList,hr,.inr ⟨b,en,cl,cF,hb,rfl⟩⟩
  ·rename_i hx
   cases zh;exact⟨[],rfl,.inl ⟨hg.aH (ax he hx),rfl⟩⟩
  ·rename_i id hx
   split at zh;case h_2=>cases zh
   rename_i rp ho;cases zh;obtain⟨en,cl,hb,hr,_⟩:=hg.heap.obj id _ (hh _ _ ho);exact⟨en.toList,hr,.inr ⟨_,en,cl,hg.aH (ax he hx),hb,rfl⟩⟩
  ·cases zh
 have bt:∀ {a:Act} {w:World} {es:List MapEntry} {q:Option (Nat×Value)},(∀ b,(Instr.checkKey b 10000 kt (a.eval i)).run P w = .ok () w)->(Instr.findKey kt (a.eval i) es).run P w = .ok q w->((a.eval x = .map none/\es = []) \/ ∃ b en cl,a.eval x = .map (some b)/\w.heap[b]?=some (.map en cl)/\en.toList=es) ->
   ∀ v ok,((∃ n,q=some (n,v))/\ok=true)\/(q=none/\ok=false/\(zeroValue el).run P w = .ok v w)->(Instr.lookup t (a.eval x) (a.eval i) c).run P w = .ok (if c then .tuple #[v,.bool ok] else v) w:=by
  intro a w es q mE hq hx v ok hv;rcases hx with⟨hx,rfl⟩|⟨b,en,cl,hx,hb,rfl⟩
  ·have DR:(Instr.findKey kt (a.eval i) (#[]:Array MapEntry).toList).run P w = .ok q w:=hq
   rcases hv with⟨⟨n,rfl⟩,rfl⟩|⟨rfl,rfl,hz⟩
   ·simp[Instr.lookup,run_underlying h1,hx,mE,DR]
   ·simp[Instr.lookup,run_underlying h1,hx,mE,DR,hz]
  ·rcases hv with⟨⟨n,rfl⟩,rfl⟩|⟨rfl,rfl,hz⟩
   ·simp[Instr.lookup,run_underlying h1,hx,mE,hq,getObj,Sem.run,hb]
   ·simp[Instr.lookup,run_underlying h1,hx,mE,hq,getObj,Sem.run,hb,hz]
 have KV:∀ {F:Nat->Nat} {w:World} {yv:Option Nat} {L:Loc} {v:D} {u:Value} {ok:Bool},bD F w v u->aT yv L F w (ni c v ok) (if c then .tuple #[u,.bool ok] else u):=by
  intro F w yv L v u ok hv;cases c
  ·exact hv
  ·exact⟨_,rfl,_,_,rfl,hv,_,_,rfl,rfl,rfl⟩
 cases r with
 | some nv=>
  obtain⟨n,v⟩:=nv;refine⟨_,hk,bj (o:=⟨dst,.lookup t x i c,ty,pos,after,guard⟩) fun cx r m L F st a w he hh hg=>?_⟩;obtain⟨es,hr,hx⟩:=lV cx r m L F st a w he hh hg;have pM:bD F w k (a.eval i):=hg.aH (ax he hi);obtain⟨mE,q,hq,hm⟩:=lh hT G6 pM hf hr
  cases q with
  | none=>exact hm.elim
  | some ju=>
   obtain⟨j,u⟩:=ju;obtain⟨rfl,hv,_⟩:=hm;exact⟨_,by simp[execOp,bt mE hq hx u true (.inl ⟨⟨n,rfl⟩,rfl⟩)],KV hv⟩
 | none=>
  simp only at hk;split at hk;case h_2=>exact hk.elim
  rename_i z hz;refine⟨_,hk,bj (o:=⟨dst,.lookup t x i c,ty,pos,after,guard⟩) fun cx r m L F st a w he hh hg=>?_⟩;obtain⟨es,hr,hx⟩:=lV cx r m L F st a w he hh hg;have pM:bD F w k (a.eval i):=hg.aH (ax he hi);obtain⟨mE,q,hq,hm⟩:=lh hT G6 pM hf hr
  cases q with
  | some ju=>exact hm.elim
  | none=>
   obtain⟨zv,BZ,IE⟩:=rV (F:=F) (w:=w) hT h5 hz;exact⟨_,by simp[execOp,bt mE hq hx zv false (.inr ⟨rfl,rfl,BZ⟩)],KV IE⟩
theorem bE.set{F:Nat->Nat}{w:World}{k v:D}{x y:Value}(hk:bD F w k x)(hv:bD F w v y):∀ {b0:List (D×D)} {es:List MapEntry} (n:Nat),bE F w b0 es->bE F w (b0.set n (k,v)) (es.modify n fun e=>{ e with key:=x,val:=y })
 | [],es,n,h=>by rw[show es = [] from h];cases n<;>rfl
 | (k',v')::r,es,0,h=>by
  obtain⟨en,es',rfl,_,_,hr⟩:=h;exact⟨{ en with key:=x,val:=y },es',by simp,hk,hv,hr⟩
 | (k',v')::r,es,n+1,h=>by
  obtain⟨en,es',rfl,h1,h2,hr⟩:=h;exact⟨en,es'.modify n fun e=>{ e with key:=x,val:=y },by simp,h1,h2,bE.set hk hv n hr⟩
theorem bE.push{F:Nat->Nat}{w:World}{k v:D}{x y:Value}{b:Nat}(hk:bD F w k x)(hv:bD F w v y):∀ {b0:List (D×D)} {es:List MapEntry},bE F w b0 es->bE F w (b0 ++ [(k,v)]) (es ++ [{ key:=x,val:=y,born:=b }])
 | [],es,h=>by rw[show es = [] from h];exact⟨_,[],rfl,hk,hv,rfl⟩
 | (k',v')::r,es,h=>by
  obtain⟨en,es',rfl,h1,h2,hr⟩:=h;exact⟨en,es' ++ [{ key:=x,val:=y,born:=b }],by simp,h1,h2,bE.push hk hv hr⟩
theorem C0{F:Nat->Nat}{w:World}{n:Nat}{a:D}{x y:Value}(h:nm a a=some true)(hx:bD F w a x)(hy:bD F w a y):x=y/\Instr.sameBits (n+1) x y=true:=by
 cases a<;>simp only[nm]at h<;>try (cases h;done)
 ·cases hx;cases hy;exact⟨rfl,by simp[Instr.sameBits]⟩
 ·cases hx;cases hy;exact⟨rfl,by simp[Instr.sameBits]⟩
 ·rename_i t v
  obtain⟨x1,rfl,h1⟩:=hx;obtain⟨y1,rfl,h2⟩:=hy;cases v<;>simp[tE]at h
  cases h1;cases h2
  exact⟨rfl,by cases n<;>simp[Instr.sameBits]⟩
theorem xk{F:Nat->Nat}{w:World}{n:Nat}:∀ {cs:List D} {l m:List Value},cv cs cs=some true->aS F w cs l->aS F w cs m->l=m/\(l.zip m).all (fun(x,y)=>Instr.sameBits (n+1) x y)=true
 | [],l,m,_,hl,hm=>by
  have hl:l = []:=hl;have hm:m = []:=hm;subst hl hm;exact⟨rfl,rfl⟩
 | c::cs,l,m,hi,hl,hm=>by
  obtain⟨x,l',rfl,hx,hl⟩:=hl;obtain⟨y,m',rfl,hy,hm⟩:=hm;simp only[cv]at hi;split at hi;case h_2=>cases hi
  rename_i p q hp hq;simp only[Option.some.injEq,Bool.and_eq_true]at hi;obtain⟨rfl,rfl⟩:=hi;obtain⟨h1,h2⟩:=xk (n:=n) (cs:=cs) hq hl hm;obtain⟨h3,h4⟩:=C0 (n:=n) hp hx hy;exact⟨by rw[h1,h3],by simp only[List.zip_cons_cons,List.all_cons,h2,h4,Bool.and_true]⟩
theorem sK{F:Nat->Nat}{w:World}{k k':D}{x y:Value}(hx:bD F w k x)(hy:bD F w k' y)(h:gY k k'=some true):Instr.sameBits 10000 y x=true:=by
 cases k<;>cases k'<;>simp only[gY]at h<;>try (cases h;done)
 ·cases hx;cases hy
  rename_i a b;have h:=Option.some.inj h;show(b ==a)=true;cases a<;>cases b<;>simp_all
 ·cases hx;cases hy
  rename_i k1 a k2 b;split at h
  ·rename_i he
   have he:=of_decide_eq_true he;have h:=of_decide_eq_true (Option.some.inj h);subst he;subst h;simp[Instr.sameBits]
  ·cases h
 ·cases hx;cases hy
  have h:=of_decide_eq_true (Option.some.inj h);subst h;show(_ ==_)=true;rw[Gh];simp
 ·obtain⟨lx,rfl,qE⟩:=hx
  obtain⟨ly,rfl,sn⟩:=hy;have h1:=v5 h;subst h1;obtain⟨e,hb⟩:=xk (n:=9998) h sn qE;have:ly=lx:=Array.ext' e;subst this;rw[show(10000:Nat)=9999+1 from rfl];unfold Instr.sameBits;rw[Bool.and_eq_true];exact⟨by simp,hb⟩
theorem bE.oD{F:Nat->Nat}{w:World}{k:D}{x:Value}(hk:bD F w k x):∀ {b0:List (D×D)} {es:List MapEntry} (n:Nat),bE F w b0 es->bE F w (oD b0 n k) (es.modify n fun e=>{ e with key:=x })
 | [],es,n,h=>by rw[show es = [] from h];cases n<;>rfl
 | (k',v')::r,es,0,h=>by
  obtain⟨en,es',rfl,_,hv,hr⟩:=h;exact⟨{ en with key:=x },es',by simp,hk,hv,hr⟩
 | (k',v')::r,es,n+1,h=>by
  obtain⟨en,es',rfl,h1,h2,hr⟩:=h;exact⟨en,es'.modify n fun e=>{ e with key:=x },by simp,h1,h2,bE.oD hk n hr⟩
theorem bE.oE{F:Nat->Nat}{w:World}{v:D}{x:Value}(hk:bD F w v x):∀ {b0:List (D×D)} {es:List MapEntry} (n:Nat),bE F w b0 es->bE F w (oE b0 n v) (es.modify n fun e=>{ e with val:=x })
 | [],es,n,h=>by rw[show es = [] from h];cases n<;>rfl
 | (k',v')::r,es,0,h=>by
  obtain⟨en,es',rfl,jc,_,hr⟩:=h;exact⟨{ en with val:=x },es',by simp,jc,hk,hr⟩
 | (k',v')::r,es,n+1,h=>by
  obtain⟨en,es',rfl,h1,h2,hr⟩:=h;exact⟨en,es'.modify n fun e=>{ e with val:=x },by simp,h1,h2,bE.oE hk n hr⟩
theorem qF.modify{en:Array MapEntry}{c:Nat}(h:qF en c){f:MapEntry->MapEntry}(hf:∀ e,(f e).born=e.born)(n:Nat):qF (en.modify n f) c:=by
 refine⟨by simpa using h.1,fun i e he=>?_⟩;rw[Array.getElem?_modify]at he;split at he
 ·obtain⟨e',Mo,rfl⟩:=Option.map_eq_some_iff.1 he
  rw[hf];exact h.2 i e' Mo
 ·exact h.2 i e he
theorem qF.push{en:Array MapEntry}{c:Nat}(h:qF en c)(k v:Value):qF (en.push { key:=k,val:=v,born:=c }) (c+1):=by
 refine⟨by simp[h.1],fun i e he=>?_⟩;rw[Array.getElem?_push]at he;split at he
 ·rename_i hi
  cases he;rw[hi];exact h.1
 ·exact h.2 i e he
theorem ru{σ:Type}{cx:Cx σ}{r:Option Nat}{m:List Nat}{L:Loc}{F:Nat->Nat}{st:St σ}{a:Act}{w:World}(hg:Good cx r m L F st a w){id:Nat}{b0 rp:List (D×D)}(h0:get st.heap id=some (.map b0)){en en':Array MapEntry}{cl cl':Nat}(hb:w.heap[L.ρ id]?=some (.map en cl))
  (hr:bE F w rp en'.toList) (ql:qF en' cl') :
  Good cx r m L F (bm st (.obj id (.map rp))) a { w with heap:=w.heap.setIfInBounds (L.ρ id) (.map en' cl') }/\Tr F w F { w with heap:=w.heap.setIfInBounds (L.ρ id) (.map en' cl') }:=by
 have dI:=(Array.getElem?_eq_some_iff.1 hb).1;have hF:=(hg.heap.own id _ h0 trivial).1;have iG:∀ z,z≠L.ρ id->({ w with heap:=w.heap.setIfInBounds (L.ρ id) (.map en' cl') }:World).heap[z]?=w.heap[z]?:=fun z hz=>by simp[Array.getElem?_setIfInBounds_ne (Ne.symm hz)]
 have tr:Tr F w F { w with heap:=w.heap.setIfInBounds (L.ρ id) (.map en' cl') }:=
  .gz rfl rfl rfl (by simp) (fun _=>Nat.le_refl _) hg.heap.fresh fun b _ Vt=>iG b (by rintro rfl;omega)
 exact hg.obj (o:=.map rp) h0 trivial (w':={ w with heap:=w.heap.setIfInBounds (L.ρ id) (.map en' cl') }) rfl rfl rfl (by simp) iG
  (by rw[hb];intro ds e;cases e) (by rw[hb];intro lp e;cases e) ⟨en',cl',by simp[Array.getElem?_setIfInBounds,dI],bE.mono tr _ _ hr,ql⟩
theorem wX(hT:bl P T){t:TypeId}{x i y:Operand}(hk:fK T e h dst (.mapUpdate t x i y) K):∃ ws,K ws/\Out P e h ⟨dst,.mapUpdate t x i y,ty,pos,after,guard⟩ ws:=by
 simp only[fK]at hk;split at hk;case h_2=>exact hk.elim
 rename_i kt ki ei id k v hm hx hi hy;split at hk;case h_2=>exact hk.elim
 rename_i b0 ho;obtain⟨Jk,⟨q0,hf,hk⟩⟩:=bA hk;obtain⟨el,h1,h3,h5⟩:=uk hT hm;have G6:=zp hT h3 Jk;have main:∀ (rp:List (D×D)),(∀ {F:Nat->Nat} {w:World} {a:Act} {en:Array MapEntry} {cl:Nat},bD F w k (a.eval i)->bD F w v (a.eval y)->bE F w b0 en.toList->qF en cl ->
   ∃ en' cl',(∀ b,a.eval x = .map (some b)->w.heap[b]?=some (.map en cl)->(Instr.mapUpdate t (a.eval x) (a.eval i) (a.eval y)).run P w = .ok () { w with heap:=w.heap.setIfInBounds b (.map en' cl') })/\bE F w rp en'.toList/\qF en' cl') ->
   Out P e h ⟨none,.mapUpdate t x i y,ty,pos,after,guard⟩ [.obj id (.map rp)]:=by
  intro rp bt σ cx r m L F st a w he hh hg hd;have cF:a.eval x = .map (some (L.ρ id)):=hg.aH (ax he hx);have pM:bD F w k (a.eval i):=hg.aH (ax he hi);have EY:bD F w v (a.eval y):=hg.aH (ax he hy);have h0:=hh _ _ ho;obtain⟨en,cl,hb,hr,ql⟩:=hg.heap.obj id _ h0;obtain⟨en',cl',AL,EV,Mi⟩:=bt (a:=a) (cl:=cl) pM EY hr ql;obtain⟨g1,g2⟩:=ru hg h0 hb EV Mi;exact⟨undef,_,.skip,by simp[execOp,AL _ cF hb],.inr ⟨rfl,rfl⟩,L,F,g1,g2⟩
 cases q0 with
 | some nv=>
  obtain⟨n,u⟩:=nv;refine⟨_,hk,main _ fun {F w a en cl} pM EY hr ql=>?_⟩;obtain⟨mE,q,hq,hm⟩:=lh hT G6 pM hf hr
  cases q with
  | none=>exact hm.elim
  | some ju=>
   obtain⟨j,u'⟩:=ju;obtain⟨rfl,_,_,dI,As,Mp,kk,sk,EX⟩:=hm;refine⟨en.modify n fun e=>{ e with key:=a.eval i,val:=a.eval y },cl,fun b JA hb=>?_,by rw[Array.toList_modify];exact bE.set pM EY n hr,ql.modify (f:=fun e=>{ e with key:=a.eval i,val:=a.eval y }) (fun _=>rfl) n⟩;have wJ:=sK pM sk EX;have EJ:en[n]?=some As:=by simpa using Mp
   simp[Instr.mapUpdate,run_underlying h1,JA,getObj,setObj,Sem.run,hb,mE,hq,Instr.keyThatStays,EJ,wJ]
 | none=>
  refine⟨_,hk,main _ fun {F w a en cl} pM EY hr ql=>?_⟩;obtain⟨mE,q,hq,hm⟩:=lh hT G6 pM hf hr
  cases q with
  | some ju=>exact hm.elim
  | none=>
   refine⟨en.push { key:=a.eval i,val:=a.eval y,born:=cl },cl+1,fun b JA hb=>?_,by simpa using bE.push pM EY hr,ql.push _ _⟩;simp[Instr.mapUpdate,run_underlying h1,JA,getObj,setObj,Sem.run,hb,mE,hq]
theorem CR(hT:bl P T){t:TypeId}{x i y:Operand}(hk:fK T e h dst (.insert t x i y) K):∃ ws,K ws/\Out P e h ⟨dst,.insert t x i y,ty,pos,after,guard⟩ ws:=by
 simp only[fK]at hk;split at hk;case h_2=>exact hk.elim
 rename_i kt ki ei id k v hm hx hi hy;split at hk;case h_2=>exact hk.elim
 rename_i b0 ho;obtain⟨Jk,⟨q0,hf,hk⟩⟩:=bA hk;obtain⟨el,h1,h3,h5⟩:=uk hT hm;have G6:=zp hT h3 Jk;have main:∀ (rp:List (D×D)),(∀ {F:Nat->Nat} {w:World} {a:Act} {en:Array MapEntry} {cl:Nat},bD F w k (a.eval i)->bD F w v (a.eval y)->bE F w b0 en.toList->qF en cl ->
   ∃ en' cl',(∀ b,a.eval x = .map (some b)->w.heap[b]?=some (.map en cl)->(Instr.mapUpdate t (a.eval x) (a.eval i) (a.eval y)).run P w = .ok () { w with heap:=w.heap.setIfInBounds b (.map en' cl') })/\bE F w rp en'.toList/\qF en' cl') ->
   Out P e h ⟨none,.insert t x i y,ty,pos,after,guard⟩ [.obj id (.map rp)]:=by
  intro rp bt σ cx r m L F st a w he hh hg hd;have cF:a.eval x = .map (some (L.ρ id)):=hg.aH (ax he hx);have pM:bD F w k (a.eval i):=hg.aH (ax he hi);have EY:bD F w v (a.eval y):=hg.aH (ax he hy);have h0:=hh _ _ ho;obtain⟨en,cl,hb,hr,ql⟩:=hg.heap.obj id _ h0;obtain⟨en',cl',AL,EV,Mi⟩:=bt (a:=a) (cl:=cl) pM EY hr ql;obtain⟨g1,g2⟩:=ru hg h0 hb EV Mi;exact⟨undef,_,.skip,by simp[execOp,AL _ cF hb],.inr ⟨rfl,rfl⟩,L,F,g1,g2⟩
 cases q0 with
 | some nv=>
  obtain⟨n,u⟩:=nv;refine⟨_,hk,main _ fun {F w a en cl} pM EY hr ql=>?_⟩;obtain⟨mE,q,hq,hm⟩:=lh hT G6 pM hf hr
  cases q with
  | none=>exact hm.elim
  | some ju=>
   obtain⟨j,u'⟩:=ju;obtain⟨rfl,_,_,dI,As,Mp,kk,sk,EX⟩:=hm;refine⟨en.modify n fun e=>{ e with key:=a.eval i,val:=a.eval y },cl,fun b JA hb=>?_,by rw[Array.toList_modify];exact bE.set pM EY n hr,ql.modify (f:=fun e=>{ e with key:=a.eval i,val:=a.eval y }) (fun _=>rfl) n⟩;have wJ:=sK pM sk EX;have EJ:en[n]?=some As:=by simpa using Mp
   simp[Instr.mapUpdate,run_underlying h1,JA,getObj,setObj,Sem.run,hb,mE,hq,Instr.keyThatStays,EJ,wJ]
 | none=>
  refine⟨_,hk,main _ fun {F w a en cl} pM EY hr ql=>?_⟩;obtain⟨mE,q,hq,hm⟩:=lh hT G6 pM hf hr
  cases q with
  | some ju=>exact hm.elim
  | none=>
   refine⟨en.push { key:=a.eval i,val:=a.eval y,born:=cl },cl+1,fun b JA hb=>?_,by simpa using bE.push pM EY hr,ql.push _ _⟩;simp[Instr.mapUpdate,run_underlying h1,JA,getObj,setObj,Sem.run,hb,mE,hq]
theorem zB(hT:bl P T){t:TypeId}{x i:Operand}(hk:fK T e h dst (.mapEntry t x i) K):∃ ws,K ws/\Out P e h ⟨dst,.mapEntry t x i,ty,pos,after,guard⟩ ws:=by
 simp only[fK]at hk;split at hk;case h_2=>exact hk.elim
 rename_i d kt ki ei id k hm hx hi;split at hk;case h_2=>exact hk.elim
 rename_i b0 ho;obtain⟨Jk,⟨q0,hf,hk⟩⟩:=bA hk;obtain⟨el,h1,h3,h5⟩:=uk hT hm;have G6:=zp hT h3 Jk
 cases q0 with
 | some nv=>
  obtain⟨n,u⟩:=nv;refine⟨_,hk,?_⟩;intro σ cx r m L F st a w he hh hg hd;have cF:a.eval x = .map (some (L.ρ id)):=hg.aH (ax he hx);have pM:bD F w k (a.eval i):=hg.aH (ax he hi);have h0:=hh _ _ ho;obtain⟨en,cl,hb,hr,ql⟩:=hg.heap.obj id _ h0;obtain⟨mE,q,hq,hm⟩:=lh hT G6 pM hf hr
  cases q with
  | none=>exact hm.elim
  | some ju=>
   obtain⟨j,u'⟩:=ju;obtain⟨rfl,hu,_,dI,As,Mp,kk,sk,EX⟩:=hm;have wJ:=sK pM sk EX;have EJ:en[n]?=some As:=by simpa using Mp
   obtain⟨g1,g2⟩:=ru hg h0 (en':=en.modify n fun e=>{ e with key:=a.eval i }) (cl':=cl) hb (by rw[Array.toList_modify];exact bE.oD pM n hr) (ql.modify (f:=fun e=>{ e with key:=a.eval i }) (fun _=>rfl) n);refine⟨.tuple #[u',goInt n],_,_,?_,.inl rfl,L,F,g1.set (v:=.d (.tup [u,.int .i64 n])) (hd d rfl) ⟨_,rfl,_,_,rfl,bD.mono g2 _ _ hu,_,_,rfl,rfl,rfl⟩,g2⟩;simp[execOp,Instr.mapEntry,run_underlying h1,cF,getObj,setObj,Sem.run,hb,mE,hq,Instr.keyThatStays,EJ,wJ,ql.2 n As EJ]
 | none=>
  simp only at hk;split at hk;case h_2=>exact hk.elim
  rename_i z hz;refine⟨_,hk,?_⟩;intro σ cx r m L F st a w he hh hg hd;have cF:a.eval x = .map (some (L.ρ id)):=hg.aH (ax he hx);have pM:bD F w k (a.eval i):=hg.aH (ax he hi);have h0:=hh _ _ ho;obtain⟨en,cl,hb,hr,ql⟩:=hg.heap.obj id _ h0;obtain⟨mE,q,hq,hm⟩:=lh hT G6 pM hf hr
  cases q with
  | some ju=>exact hm.elim
  | none=>
   obtain⟨zv,BZ,IE⟩:=rV (F:=F) (w:=w) hT h5 hz;obtain⟨g1,g2⟩:=ru hg h0 (en':=en.push { key:=a.eval i,val:=zv,born:=cl }) (cl':=cl+1) hb (by simpa using bE.push pM IE hr) (ql.push _ _);have xF:cl=b0.length:=by
    have:=bE.get hr;rw[ql.1];simpa using this
   refine⟨.tuple #[zv,goInt cl],_,_,?_,.inl rfl,L,F,g1.set (v:=.d (.tup [z,.int .i64 b0.length])) (hd d rfl) ⟨_,rfl,_,_,rfl,bD.mono g2 _ _ IE,_,_,rfl,by rw[xF];rfl,rfl⟩,g2⟩;simp[execOp,Instr.mapEntry,run_underlying h1,cF,getObj,setObj,Sem.run,hb,mE,hq,BZ]
theorem vN(hT:bl P T){t:TypeId}{x i y:Operand}(hk:fK T e h dst (.entryStore t x i y) K):∃ ws,K ws/\Out P e h ⟨dst,.entryStore t x i y,ty,pos,after,guard⟩ ws:=by
 simp only[fK]at hk;split at hk;case h_2=>exact hk.elim
 rename_i id n v hx hi hy;split at hk;case h_2=>exact hk.elim
 rename_i b0 ho;obtain⟨hc,hk⟩:=bA hk;simp only[Bool.and_eq_true,decide_eq_true_eq]at hc;refine⟨_,hk,?_⟩;intro σ cx r m L F st a w he hh hg hd;have cF:a.eval x = .map (some (L.ρ id)):=hg.aH (ax he hx);have py:a.eval i = .int .i64 n:=hg.aH (ax he hi);have EY:bD F w v (a.eval y):=hg.aH (ax he hy);have h0:=hh _ _ ho;obtain⟨en,cl,hb,hr,ql⟩:=hg.heap.obj id _ h0;have cY:en.size=b0.length:=by simpa using bE.get hr
 obtain⟨g1,g2⟩:=ru hg h0 (en':=en.modify n.toNat fun e=>{ e with val:=a.eval y }) (cl':=cl) hb (by rw[Array.toList_modify];exact bE.oE EY n.toNat hr) (ql.modify (f:=fun e=>{ e with val:=a.eval y }) (fun _=>rfl) _);have GZ:en.findIdx? (fun e=>(e.born:Int) ==n)=some n.toNat:=by
  rw[Array.findIdx?_eq_some_iff_getElem];refine⟨by omega,?_,fun j hj=>?_⟩
  ·have:=ql.2 n.toNat _ (Array.getElem?_eq_getElem (by omega))
   simp[this];omega
  ·have:=ql.2 j _ (Array.getElem?_eq_getElem (by omega))
   simp[this];omega
 refine⟨undef,_,.skip,?_,.inr ⟨rfl,rfl⟩,L,F,g1,g2⟩;simp[execOp,Instr.entryStore,cF,py,getObj,setObj,Sem.run,hb,GZ,asInt,asIntOf]
end
theorem pV{α:Type}{z:List α}:∀ {n j:Nat} {c:α},(List.replicate n z).flatten[j]?=some c->z[j%z.length]?=some c
 | 0,j,c,h=>by simp at h
 | n+1,j,c,h=>by
  rw[List.replicate_succ,List.flatten_cons]at h;by_cases hj:j<z.length
  ·rw[List.getElem?_append_left hj]at h
   rw[Nat.mod_eq_of_lt hj];exact h
  ·rw[List.getElem?_append_right (by omega)]at h
   rw[Nat.mod_eq_sub_mod (by omega)];exact pV h
theorem Good.BF{σ:Type}{cx:Cx σ}{r:Option Nat}{m:List Nat}{L:Loc}{F:Nat->Nat}{st dm:St σ}{a:Act}{w:World}(hh:Good cx r m L F st a w)(hg:∀ i,get dm.heap i=get st.heap i)(he:dm.env=st.env:=by rfl)(hs:dm.s=st.s:=by rfl):Good cx r m L F dm a w:=by
 cases st with|mk e h s=>
 cases dm with|mk e' h' s'=>
 have he:e'=e:=he;have hs:s'=s:=hs;have hg:∀ i,get h' i=get h i:=hg;subst he hs;obtain⟨⟨h1,h2,h3,h4,h5,h6⟩,h7,h8,h9,YC,YD,YE,YF⟩:=hh;exact⟨⟨h1,h2,h3,fun i o hi=>h4 i o (by rw[<- hg i];exact hi),fun i o hi=>h5 i o (by rw[<- hg i];exact hi),fun i j o p hi hj=>h6 i j o p (by rw[<- hg i];exact hi) (by rw[<- hg j];exact hj)⟩,h7,h8,h9,YC,YD,YE,YF⟩
section
variable {P : Program} {T : dV} {e : Env} {h : aq} {dst : Option Nat} {K : List Wr -> Prop} {ty : TypeId} {pos : String} {after : Array Edge} {guard : Option (Nat × Bool)}
theorem wW(hT:bl P T){t:TypeId}{l c:Operand}(hk:fK T e h dst (.makeSlice t l c) K):∃ ws,K ws/\Out P e h ⟨dst,.makeSlice t l c,ty,pos,after,guard⟩ ws:=by
 simp only[fK]at hk;split at hk;case h_2=>exact hk.elim
 rename_i ei n m d hs hl hc;split at hk;case h_2=>exact hk.elim
 rename_i z Cu;obtain⟨Jb,hk⟩:=bA hk;simp only[Bool.and_eq_true,decide_eq_true_eq]at Jb;obtain⟨eg,h0,vd⟩:=Jb;obtain⟨kp,hk⟩:=bA hk;have kp:=of_decide_eq_true kp;obtain⟨el,hu,iF⟩:=kc hT hs;have Jq:=eg;simp only[mu,Bool.and_eq_true,Dn,Cu]at Jq;have SL:z.length=ei.size:=da Jq.2;obtain⟨i,dd,g8,ue,ea,qm,_,_,_,hz⟩:=hT el ei iF;obtain⟨zv,E0,wP,_⟩:=hz z Cu;obtain⟨_,_,_,_,cY,DL,_,_,_⟩:=qU hT iF eg;refine⟨_,hk,?_⟩;intro σ cx r mm L F st a w he hh hg hd;have VV:a.eval l = .int .i64 n:=hg.aH (ax he hl);have VW:a.eval c = .int .i64 m:=hg.aH (ax he hc);have SB:0<=m:=by omega
 have hmb:m<=m*(ei.bytes:Int):=by
  have h1:(1:Int)<=(ei.bytes:Int):=by omega
  calc m=m*1:=by omega
   _<=m*(ei.bytes:Int):=Int.mul_le_mul_of_nonneg_left h1 SB
 have hr:=run_make (P:=P) w t el i zv hu g8 E0 .i64 .i64 n m h0 vd (by rw[<- qm,Int.mul_comm];omega) (by omega);have BZ:∀ w':World,aS F w' z zv.cells.toList:=fun w'=>iK wP;have K9:zv.cells.size=ei.size:=by
  have:=(BZ w).length;rw[SL]at this;simpa using this
 generalize hcells:madeCells zv.cells (m.toNat*i.size)=cells at hr;have qn:cells.size=m.toNat*ei.size:=by rw[<- hcells,size_madeCells,ea]
 have gf:cK ei.size (a7.dd (List.replicate n.toNat z)).bo:=by
  intro e he;simp only[a7.bo,cq,List.mem_map]at he;obtain⟨y,hy,rfl⟩:=he;rw[List.eq_of_mem_replicate hy,eh,SL]
 have tL:(a7.dd (List.replicate n.toNat z)).bo.length=n.toNat:=by simp[a7.bo,cq]
 have hle:n.toNat*ei.size<=m.toNat*ei.size:=Nat.mul_le_mul_right _ (by omega);have tr:Tr F w F (w.alloc (.cells cells el)):=Tr.alloc hg.heap.fresh _;have xH:aj cx.yv L F w (a7.dd (List.replicate n.toNat z)).bo.flatten (cells.toList.take (n.toNat*ei.size)):=by
  show aj _ _ _ _ (cU _).flatten _;rw[eb];have Ms:(List.replicate n.toNat z).flatten.length=n.toNat*ei.size:=by
   simp[SL]
  refine .jG (by rw[eh,Ms];simp;omega) fun j v hj=>?_;have FQ:j<n.toNat*ei.size:=by
   have:=(List.getElem?_eq_some_iff.1 hj).1;rw[eh,Ms]at this;exact this
  rw[List.getElem?_take_of_lt FQ];simp only[ug,Option.map_eq_some_iff]at hj;obtain⟨v',Hm,rfl⟩:=hj;have:=pV Hm;obtain⟨x,hx,ZS⟩:=aS.get _ (BZ w) this;refine⟨x,?_,ZS⟩;rw[<- hcells];have Zf:j<m.toNat*i.size:=by rw[<- ea];omega
  rw[SL,<- K9]at hx;have j9:zv.cells[j%zv.cells.size]?=some x:=by simpa using hx
  have dI:=(Array.getElem?_eq_some_iff.1 j9).1;have:zv.cells[j%zv.cells.size]! =x:=by
   rw[getElem!_pos zv.cells (j%zv.cells.size) dI];exact(Array.getElem?_eq_some_iff.1 j9).2
  simp[madeCells,Zf,this]
 have pL:=hg.new d cells.size (.arr ei.size (.dd (List.replicate n.toNat z))) (.cells cells el) (hg.dN (hd d rfl)) ⟨cY,gf,.inr ⟨cells,el,(by show(w.alloc _).heap[if d=d then w.heap.size else L.ρ d]?=_;rw[if_pos rfl];exact heap_alloc_new w _),(by simp),(by rw[tL,qn];exact hle),(by
  rw[tL];exact aj.kC (L:=L) (id:=d) tr (fun i hi=>by simp[hi]) (nP (c:=.dd _) rfl) xH)⟩⟩
 have bt:(execOp a.eval ⟨some d,.makeSlice t l c,ty,pos,after,guard⟩).run P w = .ok (.value (.slice (some ⟨w.heap.size,0,none⟩) n.toNat m.toNat)) (w.alloc (.cells cells el)):=by
  simp[execOp,VV,VW,hr]
 refine⟨_,_,_,bt,.inl rfl,_,F,pL.set (v:=.sl d ei.size 0 n.toNat) (hd d rfl) ⟨_,_,rfl,by omega,cY,.inr ⟨(by simp),(by simp[qn])⟩⟩,tr⟩
theorem H5{w:World}{dT sT ty el:TypeId}{i:TypeInfo}(hu:P.underlying dT=some (.slice el))(hi:P.info? el=some i)(hs:i.size=1){base ay:Option Addr}{dLen dCap sLen sCap:Nat}{cs:List Value}
  (hl:cs.length=min sLen dLen) (hc:cs = [] \/ ∃ b off,ay=some ⟨b,off,none⟩ /\ ∀ (j:Nat) v,cs[j]?=some v->w.cell? ⟨b,off+j,none⟩=some v)
  {g o:Nat} {cur:Array Value} {t:TypeId} (hb:cs = []\/base=some ⟨g,o,none⟩) (hg:w.heap[g]?=some (.cells cur t (0,0))) (hf:o+cs.length<=cur.size) (h1:∀ v∈cs,v.oneCell'=true) :
  (Builtin.copy_ #[dT,sT] ty #[.slice base dLen dCap,.slice ay sLen sCap]).run P w = .ok (goInt cs.length) (w.setRow g (cur.toList.take o++cs++cur.toList.drop (o+cs.length)).toArray):=by
 rcases hb with rfl|rfl
 ·have MH:min sLen dLen=0:=by simpa using hl.symm
  have ES:Nat.min sLen dLen=0:=MH;have vf:w.setRow g (cur.toList.take o ++ []++cur.toList.drop (o+([]:List Value).length)).toArray=w:=by
   simp only[List.append_nil,List.length_nil,Nat.add_zero,List.take_append_drop,Array.toArray_toList];exact setRow_self w g cur t (0,0) hg
  rw[vf];cases base<;>cases ay<;>simp[Builtin.copy_,run_underlying hu,Builtin.lenOf,Builtin.firstCells,sizeOf,typeInfo,hi,hs,ES,storeCells,loadCells,loadCellsFrom]
 ·rcases hc with rfl|⟨b,off,rfl,hj⟩
  ·have MH:min sLen dLen=0:=by simpa using hl.symm
   have ES:Nat.min sLen dLen=0:=MH;have vf:w.setRow g (cur.toList.take o ++ []++cur.toList.drop (o+([]:List Value).length)).toArray=w:=by
    simp only[List.append_nil,List.length_nil,Nat.add_zero,List.take_append_drop,Array.toArray_toList];exact setRow_self w g cur t (0,0) hg
   rw[vf];cases ay<;>simp[Builtin.copy_,run_underlying hu,Builtin.lenOf,Builtin.firstCells,sizeOf,typeInfo,hi,hs,ES,storeCells,loadCells,loadCellsFrom]
  ·exact run_copy_row P w dT sT ty el g o dLen dCap ⟨b,off,none⟩ sLen sCap cur t cs hu (by simp[hi,hs]) hg hl (fun j v hv=>by rw[dY];exact hj j v hv) hf h1
theorem HN(hT:bl P T){args:Array Operand}{tys:Array TypeId}(hk:dZ T e h dst .copy args tys K):∃ ws,K ws/\Out P e h ⟨dst,.call ⟨.builtin .copy,args,tys⟩,ty,pos,after,guard⟩ ws:=by
 simp only[dZ]at hk;split at hk;case h_2=>exact hk.elim
 rename_i x y t u bR AX;split at hk;case h_2=>exact hk.elim
 rename_i ei ui id sz off n v iF NM hx hy;split at hk;case h_2=>exact hk.elim
 rename_i mm es nC;obtain⟨hc,dC⟩:=bA hk;clear hk;simp only[Bool.and_eq_true]at hc;obtain⟨wE,SK,BX⟩:=hc;have wE:=da wE;have SK:=da SK;have BX:=da BX;subst SK BX;obtain⟨fs,FP,hk⟩:=Aq dC;clear dC;split at hk;case h_2=>exact hk.elim
 rename_i fs;obtain⟨hc,hk⟩:=bA hk;simp only[Bool.and_eq_true]at hc;obtain⟨hle,Ms⟩:=hc;have hle:=lO hle;obtain⟨el,tf,Jd⟩:=kc hT iF;obtain⟨ie,dd,g8,ue,ea,qm,_⟩:=hT el ei Jd;refine⟨_,hk,?_⟩;intro σ cx r m L F st a w he hh hg hd;obtain⟨base,cap,cF,SA,_,hb⟩:=hg.aH (ax he hx);have uf:∀ e∈(a7.dd fs).bo,e.length=1/\cf e=true:=yV (es:=.dd fs) Ms;have AL:=hh _ _ nC;obtain⟨_,gf,jm⟩:=hg.heap.obj id _ AL;obtain⟨ay,N5,news,JC,Q1,IB,nh,u6⟩:=qX hh hg.heap FP (hg.aH (ax he hy)) (fun e he=>(uf e he).1) (Nat.one_pos);have h1:=IB.one (fy fun e he=>(uf e he).2);have Mt:(a7.dd fs).bo.length=fs.length:=by simp[a7.bo,cq]
 rw[Mt,Nat.mul_one]at nh;rw[Mt]at JC;have tL:(a7.dd es).bo.length=es.length:=by simp[a7.bo,cq]
 generalize sk:min fs.length n=k at hk ⊢;have zb:args.map a.eval = #[.slice base n cap,a.eval y]:=by
  apply Array.ext';simp[bR,cF]
 have K7:tys = #[t,u]:=by
  apply Array.ext';simp[AX]
 have EM:k<=fs.length:=by omega
 have XD:k<=n:=by omega
 have G8:(news.take k).length=k:=by rw[List.length_take,nh];omega
 have Jv:∀ {α:Type} (l:List α),(l.take off++([]:List α)++l.drop (off+0))=l:=fun l=>by simp
 have hfk:(fs.take k).flatten.length=k:=by
  have:=jk (α:=D) (sz:=1) (es:=fs.take k) (fun e he=>by
   have:=(uf (inj e) (by simp only[a7.bo,cq,List.mem_map];exact⟨e,List.mem_of_mem_take he,rfl⟩)).1
   rwa [eh]at this)
  rw[this,List.length_take];omega
 rcases jm with⟨zj,hκ0⟩|⟨l,E,kQ,jc,Hk,Cs⟩
 ·
  have nZ:es = []:=by
   have:=congrArg List.length zj;rw[tL]at this;exact List.length_eq_zero_iff.1 this
  subst nZ;have YB:off+n=0:=by simpa using hle
  have V8:k=0:=by omega
  have Wm:off=0:=by omega
  subst V8 Wm;have IC:n=0:=by omega
  subst IC;have vf:(([]:List (List D)).take 0++fs.take 0++([]:List (List D)).drop (0+0)) = []:=by simp
  rw[vf];have hr:(Builtin.copy_ #[t,u] ty #[.slice base 0 cap,a.eval y]).run P w = .ok (goInt 0) w:=by
   rw[JC];cases base<;>cases ay<;>simp[Builtin.copy_,run_underlying tf,Builtin.lenOf,Builtin.firstCells,sizeOf,typeInfo,g8,<- ea,wE,storeCells,loadCells,loadCellsFrom]
  have Y8:Good cx r m L F (bm st (.obj id (.arr 1 (.dd [])))) a w:=by
   refine hg.BF (fun i=>?_);simp only[bm,db];split
   ·rename_i e;rw[e,AL]
   ·rfl
  refine⟨goInt 0,w,_,by simp[execOp,resolve,invoke,builtin,zb,K7,hr],.inl rfl,L,F,?_,Tr.refl F w⟩;exact Y8.aO (v:=.d (.int .i64 ((0:Nat):Int))) hd rfl
 ·have j8:k=0\/(base=some ⟨L.ρ id,off,none⟩/\off+cap<=L.κ id):=by
   rcases hb with⟨h0,_⟩|⟨h0,h1⟩
   ·exact .inl (by omega)
   ·exact .inr ⟨by simpa using h0,by simpa using h1⟩
  rw[Nat.mul_one]at Hk Cs;rw[tL]at Hk Cs;have hr:=H5 (P:=P) (w:=w) (ty:=ty) (dT:=t) (sT:=u) tf g8 (by rw[<- ea,wE]) (base:=base) (ay:=ay) (dLen:=n) (dCap:=cap) (sLen:=fs.length) (sCap:=N5) (cs:=news.take k)
   (by rw[G8,sk]) (by
    rcases u6 with h0|⟨b,o,e1,h1⟩
    ·left
     have:fs.length=0:=by rw[<- Mt,h0];rfl
     have:k=0:=by omega
     rw[this];rfl
    ·exact .inr ⟨b,o,e1,fun j v hv=>h1 j v (by
      have Ze:j<k:=by
       have:=(List.getElem?_eq_some_iff.1 hv).1;rw[G8]at this;exact this
      rwa [List.getElem?_take_of_lt Ze]at hv)⟩)
   (g:=L.ρ id) (o:=off) (cur:=l) (t:=E) (by
    rcases j8 with h0|h0
    ·left;rw[h0];rfl
    ·exact .inr h0.1) kQ (by rw[G8];omega) (fun v hv=>h1 v (List.mem_of_mem_take hv))
  rw[<- JC]at hr;rw[G8]at hr;have hL:=Array.length_toList (xs:=l);have M4:=fT (cs:=l.toList) (l:=news.take k) (off:=off) (by rw[G8];omega);rw[G8]at M4;generalize sj:(l.toList.take off++news.take k++l.toList.drop (off+k)).toArray=c' at hr;have ce:c'.toList=l.toList.take off++news.take k++l.toList.drop (off+k):=by rw[<- sj]
  have wK:c'.size=l.size:=by rw[<- ce]at M4;simpa using M4
  have Je:Good cx r m L F (bm st (.obj id (.arr 1 (.dd (es.take off++fs.take k++es.drop (off+k)))))) a (w.setRow (L.ρ id) c')/\Tr F w F (w.setRow (L.ρ id) c'):=by
   by_cases hκ:L.κ id=0
   ·
    have Zn:l.size=0:=by rw[jc,hκ]
    have Y1:es = []:=List.length_eq_zero_iff.1 (by omega);subst Y1;have YB:off+n=0:=by simpa using hle
    have V8:k=0:=by omega
    have Wm:off=0:=by omega
    subst V8 Wm;have vf:(([]:List (List D)).take 0++fs.take 0++([]:List (List D)).drop (0+0)) = []:=by simp
    rw[vf];have xF:c'=l:=by
     rw[<- sj];simp
    rw[xF,setRow_self w _ _ _ _ kQ];refine⟨hg.BF (fun i=>?_),Tr.refl F w⟩;simp only[bm,db];split
    ·rename_i e;rw[e,AL]
    ·rfl
   ·have tr:Tr F w F (w.setRow (L.ρ id) c'):=
     .gz rfl rfl rfl (by simp) (fun _=>Nat.le_refl _) hg.heap.fresh fun b _ hF=>setRow_other _ _ _ _ (by rintro rfl;have:=(hg.heap.own id _ AL hκ).1;omega)
    have KX:(es.take off++fs.take k++es.drop (off+k)).length=es.length:=by
     have:=fT (cs:=es) (l:=fs.take k) (off:=off) (by rw[List.length_take];omega);rw[List.length_take,Nat.min_eq_left EM]at this;exact this
    refine hg.obj (o:=.arr 1 (.dd (es.take off++fs.take k++es.drop (off+k)))) AL hκ (w':=w.setRow (L.ρ id) c') rfl rfl rfl (size_setRow _ _ _) (fun b hb=>setRow_other _ _ _ _ hb)
     (by rw[kQ];intro ds e;cases e) (by rw[kQ];intro lp e;cases e)
     ⟨Nat.one_pos,?_,.inr ⟨c',E,setRow_heap _ _ _ _ _ _ kQ,by rw[wK,jc],?_,?_⟩⟩
    ·intro e he
     simp only[a7.bo,cq,List.mem_map,List.mem_append]at he;obtain⟨q,hq,rfl⟩:=he;rcases hq with(hq|hq)|hq
     ·exact gf _ (by simp only[a7.bo,cq,List.mem_map];exact⟨q,List.mem_of_mem_take hq,rfl⟩)
     ·exact(uf _ (by simp only[a7.bo,cq,List.mem_map];exact⟨q,List.mem_of_mem_take hq,rfl⟩)).1
     ·exact gf _ (by simp only[a7.bo,cq,List.mem_map];exact⟨q,List.mem_of_mem_drop hq,rfl⟩)
    ·simp only[a7.bo,cq,List.length_map,KX,Nat.mul_one,wK];omega
    ·have e0:(a7.dd (es.take off++fs.take k++es.drop (off+k))).bo.length*1=es.length:=by simp only[a7.bo,cq,List.length_map,KX,Nat.mul_one]
     rw[e0,ce];refine aj.mono tr _ _ (fun _ _=>⟨rfl,rfl⟩) ?_;have e1:(a7.dd (es.take off++fs.take k++es.drop (off+k))).bo.flatten=(a7.dd es).bo.flatten.take off++((a7.dd fs).bo.flatten.take k)++(a7.dd es).bo.flatten.drop (off+k):=by
      have h1:=fW (es:=(a7.dd es).bo) off gf;have h2:=fW (es:=(a7.dd fs).bo) k (fun e he=>(uf e he).1);have h3:=mz (es:=(a7.dd es).bo) (off+k) gf;rw[Nat.mul_one]at h1 h2 h3;rw[<- h1,<- h2,<- h3];simp[a7.bo,cq,List.map_take,List.map_drop]
     rw[e1];have e2:((l.toList.take off++news.take k++l.toList.drop (off+k)).take es.length)=(l.toList.take es.length).take off++news.take k++(l.toList.take es.length).drop (off+(news.take k).length):=by
      have:=tF (l:=l.toList) (Y:=news.take k) (o:=off) (n:=es.length) (by rw[G8];omega) (by omega);rw[G8]at this ⊢;exact this
     rw[e2,G8];exact((Cs.take off).append (IB.take k)).append (Cs.drop (off+k))
  refine⟨goInt k,_,_,by simp[execOp,resolve,invoke,builtin,zb,K7,hr],.inl rfl,L,F,?_,Je.2⟩;exact Je.1.aO (v:=.d (.int .i64 ((k:Nat):Int))) hd rfl
end
end Go.PX
