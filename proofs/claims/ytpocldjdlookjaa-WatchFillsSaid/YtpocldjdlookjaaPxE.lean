import Derived.Test.YtpocldjdlookjaaPxD
import Derived.Laws.MakeOwn
set_option linter.all false
namespace Go.PX
open Go.RowKit
section
variable {P : Program} {T : dM} {e : Env} {h : av} {dst : Option Nat} {K : List Wr -> Prop} {ty : TypeId} {pos : String} {after : Array Edge} {guard : Option (Nat × Bool)}
theorem Dl(hT:bj P T){t:TypeId}{x:Operand}(hk:fo T e h dst (.range t x) K):∃ ws,K ws/\Out P e h ⟨dst,.range t x,ty,pos,after,guard⟩ ws:=by
 simp only[fo]at hk;split at hk;case h_3=>exact hk.elim
 case h_2=>
  rename_i ti id d ht hx;split at hk;case h_2=>exact hk.elim
  rename_i mk me cc dt dZ;obtain⟨eA,hk⟩:=bK hk;have eA:id≠d:=by rintro rfl;simp at eA
  obtain⟨de,fV,dC⟩:=eb hT ht;rw[dt]at dC;have:=qj dC.symm;subst this;refine⟨_,hk,?_⟩;intro σ cx r m L F st a w he hh hg hd;have cP:a.eval x = .map (some (L.ρ id)):=hg.aM (aG he hx);obtain⟨en,c,hb,hr,o6⟩:=hg.heap.obj id _ (hh _ _ dZ);have hl:c=cc.length:=by rw[o6.1];simpa using bH.get hr
  have tr:Tr F w F (w.alloc (.mapIter (some (L.ρ id)) c #[] c)):=Tr.alloc hg.heap.fresh _;have oz:=hg.new d 0 (.mit (.mp id) cc.length (List.range cc.length) none) (.mapIter (some (L.ρ id)) c #[] c) (hg.eh (hd d rfl))
   ⟨L.ρ id,#[],by show Value.map (some _) = .map (some _);simp[eA],by show(w.alloc _).heap[if d=d then w.heap.size else L.ρ d]?=_;rw[if_pos rfl,heap_alloc_new w _,hl],(fun i=>by simp),fun i e=>by cases e⟩
  refine⟨.pointer (some ⟨w.heap.size,0,none⟩),_,_,?_,.inl rfl,_,F,oz.set (v:=.it d) (hd d rfl) (by show Value.pointer _=Value.pointer _;simp),tr⟩;simp[execOp,cP,Instr.range,run_underlying fV,getObj,Sem.run,hb]
 rename_i ti s d ht hx;split at hk;case h_2=>exact hk.elim
 rename_i dt;obtain⟨de,fV,dC⟩:=eb hT ht;rw[dt]at dC;have:=gT dC.symm;subst this;refine⟨_,hk,?_⟩;intro σ cx r m L F st a w he hh hg hd;have cP:=jH hg he hx;have tr:Tr F w F (w.alloc (.stringIter s 0)):=Tr.alloc hg.heap.fresh _;have oz:=hg.new d 0 (.iter s 0) (.stringIter s 0) (hg.eh (hd d rfl)) (by show(w.alloc _).heap[if d=d then w.heap.size else L.ρ d]?=_;rw[if_pos rfl];exact heap_alloc_new w _);refine⟨.pointer (some ⟨w.heap.size,0,none⟩),_,_,?_,.inl rfl,_,F,oz.set (v:=.it d) (hd d rfl) (by show Value.pointer _=Value.pointer _;simp),tr⟩;simp[execOp,cP,Instr.range,run_underlying fV]
theorem EY{σ:Type}{cx:Cx σ}{r:Option Nat}{m:List Nat}{L:Loc}{F:Nat->Nat}{st:St σ}{a:Act}{w:World}(hg:Good cx r m L F st a w){h:av}(hh:cM h st.heap){v:V}{cc:List (D×D)}(xl:G1 h v=some cc){rb:Nat}(hv:a6 cx.yv L F w v (.map (some rb))) :
  ∃ en c,w.heap[rb]?=some (.map en c)/\bH F w cc en.toList/\pG en c:=by
 unfold G1 at xl;split at xl;case h_2=>cases xl
 rename_i mm;split at xl;case h_2=>cases xl
 rename_i qn SU;cases xl;have hv:Value.map (some rb) = .map (some (L.ρ mm)):=hv;simp only[Value.map.injEq,Option.some.injEq]at hv;rw[hv];exact hg.heap.obj mm _ (hh _ _ SU)
theorem Di{x:Operand}(hk:fo T e h dst (.entry x) K):∃ ws,K ws/\Out P e h ⟨dst,.entry x,ty,pos,after,guard⟩ ws:=by
 simp only[fo]at hk;split at hk;case h_2=>exact hk.elim
 rename_i id hx;split at hk;case h_2=>exact hk.elim
 rename_i v n todo i dZ;split at hk;case h_2=>exact hk.elim
 rename_i cc xl;obtain⟨hn,⟨k,u⟩,hi,hk⟩:=hk;refine⟨_,hk,bp (v:=.d (.tup [k,u])) (o:=⟨dst,.entry x,ty,pos,after,guard⟩) fun cx r m L F st a w he hh hg=>?_⟩;have cP:a.eval x = .pointer (some ⟨L.ρ id,0,none⟩):=hg.aM (aG he hx);obtain⟨rb,seen,hv,hb,_,O2⟩:=hg.heap.obj id _ (hh _ _ dZ);obtain⟨en,c,hm,hr,o6⟩:=EY hg hh xl hv;have gz:=O2 i rfl;have Nc:c=n:=by
  rw[o6.1,<- hn];simpa using bH.get hr
 have FN:i<en.size:=by
  have:=(List.getElem?_eq_some_iff.1 hi).1;have h2:=bH.get hr;simp at h2;omega
 obtain⟨k',u',Nj,oB,P8⟩:=bH.at hr (i:=i) (e:=en[i]) (by simp[FN]);rw[hi]at Nj;cases Nj;have Ev:en.find? (·.born ==i)=some en[i]:=by
  rw[Array.find?_eq_some_iff_getElem];have nf:=o6.2 i _ (Array.getElem?_eq_getElem FN);refine⟨by simp[nf],i,FN,rfl,fun j hj=>?_⟩;have:=o6.2 j _ (Array.getElem?_eq_getElem (by omega));simp[this];omega
 refine⟨.tuple #[en[i].key,en[i].val],?_,⟨_,rfl,_,_,rfl,oB,_,_,rfl,P8,rfl⟩⟩;simp[execOp,cP,Instr.entry,getObj,Sem.run,Sem.run_bind,hb,gz,hm,Nc,Ev]
theorem Fg{x:Operand}{b:Bool}(hk:fo T e h dst (.next x b) K):∃ ws,K ws/\Out P e h ⟨dst,.next x b,ty,pos,after,guard⟩ ws:=by
 simp only[fo]at hk;split at hk;case h_2=>exact hk.elim
 rename_i id hx;split at hk;case h_2=>exact hk.elim
 rename_i s p hs;rcases tu hk with⟨hb,⟨hk⟩⟩|⟨hb,hk⟩
 ·have hb:=of_decide_eq_true hb
  refine⟨_,hk,?_⟩;intro σ cx r m L F st a w he hh hg hd;have cP:a.eval x = .pointer (some ⟨L.ρ id,0,none⟩):=hg.aM (aG he hx);have h0:=hh _ _ hs;have nf:w.heap[L.ρ id]?=some (.stringIter s p):=hg.heap.obj id _ h0;have eC:=(Array.getElem?_eq_some_iff.1 nf).1;obtain⟨g1,g2⟩:=hg.obj (o:=.iter s (p+(Utf8.decode s p).2)) h0 trivial (w':={ w with heap:=w.heap.setIfInBounds (L.ρ id) (.stringIter s (p+(Utf8.decode s p).2)) }) rfl rfl rfl (by simp) (fun y hy=>by simp[Array.getElem?_setIfInBounds_ne (Ne.symm hy)])
   (by rw[nf];intro ds e;cases e) (by rw[nf];intro lp e;cases e) (by show _=_;simp[Array.getElem?_setIfInBounds,eC])
  refine⟨.tuple #[.bool true,.int .i64 p,.int .i32 (Utf8.decode s p).1],_,_,?_,.inl rfl,L,F,?_,g2⟩
  ·simp only[execOp,cP,Instr.next,getObj,setObj,Sem.run_bind,Sem.run,nf,Result.andThen]
   simp[hb,Sem.run,nf,goInt]
  ·cases dst with
   | none=>exact g1
   | some d=>exact g1.set (hd d rfl) ⟨_,rfl,⟨_,_,rfl,rfl,_,_,rfl,rfl,_,_,rfl,rfl,rfl⟩⟩
 ·have hb:=of_decide_eq_false hb
  refine⟨_,hk,bp (o:=⟨dst,.next x true,ty,pos,after,guard⟩) fun cx r m L F st a w he hh hg=>?_⟩;have cP:a.eval x = .pointer (some ⟨L.ρ id,0,none⟩):=hg.aM (aG he hx);have nf:w.heap[L.ρ id]?=some (.stringIter s p):=hg.heap.obj id _ (hh _ _ hs);refine⟨_,?_,⟨_,rfl,⟨_,_,rfl,rfl,rfl⟩⟩⟩;simp only[execOp,cP,Instr.next,getObj,Sem.run_bind,Sem.run,nf,Result.andThen];simp[hb,Sem.run]
theorem zc{t:TypeId}{x:Option Operand}(hk:fo T e h dst (.makeMap t x) K):∃ ws,K ws/\Out P e h ⟨dst,.makeMap t x,ty,pos,after,guard⟩ ws:=by
 simp only[fo]at hk;split at hk;case h_2=>exact hk.elim
 rename_i d;refine⟨_,hk,?_⟩;intro σ cx r m L F st a w he hh hg hd;have tr:Tr F w F (w.alloc (.map #[] 0)):=Tr.alloc hg.heap.fresh _;have oz:=hg.new d 0 (.map []) (.map #[] 0) (hg.eh (hd d rfl)) ⟨#[],0,by show(w.alloc _).heap[if d=d then w.heap.size else L.ρ d]?=_;rw[if_pos rfl];exact heap_alloc_new w _,rfl,rfl,by intro i e h;simp at h⟩;refine⟨.map (some w.heap.size),_,_,?_,.inl rfl,_,F,oz.set (v:=.mp d) (hd d rfl) (by show Value.map _=Value.map _;simp),tr⟩;simp[execOp,Instr.makeMap]
inductive Hy(P:Program)(T:dM)(kt:TypeId)(k:D):Prop where
 | plain (dk:TypeDesc) (hk:P.underlying kt=some dk) (xk:(∃ k,dk = .int k)\/dk = .string\/dk = .bool) (tY:qk T kt (ik dk) k=true)
 | wide (dk:TypeDesc) (cs:List D) (n:Nat) (hk:P.underlying kt=some dk) (mP:∃ ti,T.get kt=some ti/\ti.isAgg=true) (xk:∀ x y,Instr.sameNow dk x y=none) (hc:k = .agg cs) (hf:flat T 9 kt=some n) (hl:cs.length=n) (hi:n8 T 9 kt cs=true)
theorem s3(hT:bj P T){t kt:TypeId}{ki ei:oQ}(h:mapOf T t=some (kt,(ki,ei))):∃ el,P.underlying t=some (.map kt el)/\T.get kt=some ki/\T.get el=some ei:=by
 unfold mapOf at h;split at h;case h_2=>cases h
 rename_i ti ht;split at h;case h_2=>cases h
 rename_i kt el dt;obtain⟨de,fV,dC⟩:=eb hT ht;rw[dt]at dC;have:=qj dC.symm;subst this;split at h;case h_2=>cases h
 rename_i T9 RZ FP iB;cases h;exact⟨el,fV,FP,iB⟩
theorem xu(hT:bj P T){kt:TypeId}{ki:oQ}(FP:T.get kt=some ki){k:D}(h:qk T kt ki.kd k=true):Hy P T kt k:=by
 obtain⟨i,dk,hi,xk,_,_,fj,mP,_⟩:=hT kt ki FP
 cases dt:ki.kd with
 | int q=>
  have:=lq (fj.symm.trans dt);subst this;exact .plain _ xk (.inl ⟨_,rfl⟩) (by rw[dt]at h;exact h)
 | str=>
  have:=gT (fj.symm.trans dt);subst this;exact .plain _ xk (.inr (.inl rfl)) (by rw[dt]at h;exact h)
 | bool=>
  have:=nY (fj.symm.trans dt);subst this;exact .plain _ xk (.inr (.inr rfl)) (by rw[dt]at h;exact h)
 | struct fs=>
  rw[dt]at h;obtain⟨fa,rfl,_⟩:=gA (fj.symm.trans dt);cases k<;>simp only[qk]at h<;>try (cases h;done)
  split at h;case h_2=>cases h
  rename_i n hn;simp only[Bool.and_eq_true]at h;exact .wide _ _ n xk ⟨ki,FP,mP⟩ (fun x y=>by cases x<;>cases y<;>rfl) rfl hn (dc h.1) h.2
 | array m e=>
  rw[dt]at h;have:=eT (fj.symm.trans dt);subst this;cases k<;>simp only[qk]at h<;>try (cases h;done)
  split at h;case h_2=>cases h
  rename_i n hn;simp only[Bool.and_eq_true]at h;exact .wide _ _ n xk ⟨ki,FP,mP⟩ (fun x y=>by cases x<;>cases y<;>rfl) rfl hn (dc h.1) h.2
 | _=>rw[dt]at h;cases k<;>simp only[qk]at h<;>cases h
theorem DS(a b:ByteArray):(a ==b)=decide (a=b):=by
 have h:(a ==b)=(a.data ==b.data):=by cases a;cases b;rfl
 rw[h];by_cases vm:a=b
 ·subst vm;simp
 ·have:a.data≠b.data:=fun e=>vm (by cases a;cases b;simp only at e;rw[e])
  simp[vm,this]
theorem Hl{F:Nat->Nat}{w:World}{kt:TypeId}{dk:TypeDesc}(xk:(∃ k,dk = .int k)\/dk = .string\/dk = .bool){k:D}{x:Value}(hx:bC F w k x)(tY:qk T kt (ik dk) k=true)(k':D)(y:Value)(r:Bool)(h:gE k k'=some r)(hy:bC F w k' y):Instr.sameNow dk x y=some r:=by
 cases k<;>cases k'<;>simp only[gE]at h<;>try (cases h;done)
 ·cases hx;cases hy
  cases h;rcases xk with⟨_,rfl⟩|rfl|rfl<;>simp[qk,ik]at tY
  rfl
 ·cases hx;cases hy
  rename_i k1 a k2 b;split at h
  ·rename_i he
   have he:=of_decide_eq_true he;cases h;rcases xk with⟨_,rfl⟩|rfl|rfl<;>simp[qk,ik]at tY
   simp[Instr.sameNow,he];rfl
  ·cases h
 ·cases hx;cases hy
  cases h;rcases xk with⟨_,rfl⟩|rfl|rfl<;>simp[qk,ik]at tY
  show some (_ ==_)=_;rename_i a b
  congr 1
  exact DS _ _
 ·rcases xk with⟨_,rfl⟩|rfl|rfl<;>simp[qk,ik]at tY
def Found(F:Nat->Nat)(w:World)(k:D)(es:List MapEntry)(n:Nat)(r:Option (Nat×D))(q:Option (Nat×Value)):Prop:=
 match r,q with
 | none,none=>True
 | some (i,v),some (j,u)=>i=j/\bC F w v u/\n<=i/\i<n+es.length /\ ∃ en,es[i-n]?=some en /\ ∃ kk,bC F w kk en.key/\gE k kk=some true
 | _,_=>False
theorem vX{F:Nat->Nat}{w:World}{kd:TypeDesc}{k:D}{x:Value}(hx:bC F w k x)(jS:∀ (k':D) (y:Value) (r:Bool),gE k k'=some r->bC F w k' y->Instr.sameNow kd x y=some r) :
  ∀ {cc:List (D×D)} {es:List MapEntry} {n:Nat} {r:Option (Nat×D)},findD k cc n=some r->bH F w cc es ->
   ∃ q,Instr.findNow kd x es n=some q/\Found F w k es n r q
 | [],es,n,r,h,hr=>by
  have hr:es = []:=hr;subst hr;simp only[findD,Option.some.injEq]at h;subst h;exact⟨none,rfl,trivial⟩
 | (k',v)::kr,es,n,r,h,hr=>by
  obtain⟨en,vg,rfl,hk,hv,hr⟩:=hr;simp only[findD]at h;split at h
  ·rename_i hs
   cases h;refine⟨some (n,en.val),?_,rfl,hv,Nat.le_refl _,by simp,en,by simp,k',hk,hs⟩;simp only[Instr.findNow,jS k' en.key true hs hk]
  ·rename_i hs
   obtain⟨q,h1,h2⟩:=vX hx jS h hr;refine⟨q,?_,?_⟩
   ·simp only[Instr.findNow,jS k' en.key false hs hk];exact h1
   ·match r,q,h2 with
    | none,none,_=>trivial
    | some (i,v),some (j,u),⟨p1,p2,p3,p4,en',p5,p6⟩=>
     refine⟨p1,p2,by omega,by simp;omega,en',?_,p6⟩;have:i-n=(i-(n+1))+1:=by omega
     rw[this,List.getElem?_cons_succ];exact p5
  ·cases h
theorem vV{F:Nat->Nat}{w:World}{kt:TypeId}{k:D}{x:Value}(hx:bC F w k x)(jS:∀ (k':D) (y:Value) (r:Bool),gE k k'=some r->bC F w k' y->(Op.equal kt x y).run P w = .ok r w) :
  ∀ {cc:List (D×D)} {es:List MapEntry} {n:Nat} {r:Option (Nat×D)},findD k cc n=some r->bH F w cc es ->
   ∃ q,(Instr.findAsking kt x es n).run P w = .ok q w/\Found F w k es n r q
 | [],es,n,r,h,hr=>by
  have hr:es = []:=hr;subst hr;simp only[findD,Option.some.injEq]at h;subst h;exact⟨none,by simp[Instr.findAsking],trivial⟩
 | (k',v)::kr,es,n,r,h,hr=>by
  obtain⟨en,vg,rfl,hk,hv,hr⟩:=hr;simp only[findD]at h;split at h
  ·rename_i hs
   cases h;refine⟨some (n,en.val),?_,rfl,hv,Nat.le_refl _,by simp,en,by simp,k',hk,hs⟩;simp[Instr.findAsking,jS k' en.key true hs hk]
  ·rename_i hs
   obtain⟨q,h1,h2⟩:=vV hx jS h hr;refine⟨q,?_,?_⟩
   ·simp[Instr.findAsking,jS k' en.key false hs hk,h1]
   ·match r,q,h2 with
    | none,none,_=>trivial
    | some (i,v),some (j,u),⟨p1,p2,p3,p4,en',p5,p6⟩=>
     refine⟨p1,p2,by omega,by simp;omega,en',?_,p6⟩;have:i-n=(i-(n+1))+1:=by omega
     rw[this,List.getElem?_cons_succ];exact p5
  ·cases h
theorem rm:∀ {a b c d:List D},cd a b=some true->cd c d=some true->cd (a++c) (b++d)=some true
 | [],[],_,_,_,h=>h
 | [],_::_,_,_,h,_=>by simp[cd]at h
 | _::_,[],_,_,h,_=>by simp[cd]at h
 | x::a,y::b,c,d,h,k=>by
  simp only[cd]at h;split at h;case h_2=>cases h
  rename_i p q hp hq;simp only[Option.some.injEq,Bool.and_eq_true]at h;obtain⟨rfl,rfl⟩:=h;simp[cd,hp,rm hq k]
theorem v3{T:dM}:∀ (d:Nat) (t:TypeId) (n:Nat),flat T d t=some n -> ∃ ti,T.get t=some ti/\ti.size=n
 | 0,_,_,h=>by simp[flat]at h
 | d+1,t,n,h=>by
  simp only[flat]at h;split at h
  ·cases h
  rename_i ti fL;refine⟨ti,fL,?_⟩;split at h
  ·split at h
   ·rename_i hs;cases h;exact Nat.eq_of_beq_eq_true hs
   ·cases h
  ·split at h
   ·rename_i hs;cases h;exact Nat.eq_of_beq_eq_true hs
   ·cases h
  ·split at h
   ·rename_i hs;cases h;exact Nat.eq_of_beq_eq_true hs
   ·cases h
  ·split at h
   ·split at h
    ·rename_i hs;cases h;exact Nat.eq_of_beq_eq_true hs
    ·cases h
   ·cases h
  ·split at h
   ·split at h
    ·rename_i hs;cases h;exact Nat.eq_of_beq_eq_true hs
    ·cases h
   ·cases h
  ·cases h
theorem tH{T:dM}{f:TypeId->Option Nat}{g:TypeId->List D->Bool}(hf:∀ t c xs,f t=some c->(∃ ti,T.get t=some ti/\ti.size=c)/\(xs.length=c->g t xs=true->cd xs xs=some true)):∀ (fs:List (Nat×TypeId)) (n m:Nat) (xs:List D),m7 f fs n=some m->xs.length=m->vY T g fs xs=true->n<=m/\cd (xs.drop n) (xs.drop n)=some true
 | [],n,m,xs,h,hl,_=>by
  simp only[m7,Option.some.injEq]at h;subst h;rw[List.drop_eq_nil_of_le (by omega)];exact⟨Nat.le_refl _,rfl⟩
 | (off,t)::r,n,m,xs,h,hl,hk=>by
  simp only[m7]at h;split at h;case h_2=>cases h
  rename_i c qg hc;have qg:=Nat.eq_of_beq_eq_true qg;subst qg;obtain⟨⟨ti,fL,cU⟩,_⟩:=hf t (c+1) xs hc;simp only[vY,fL]at hk;split at hk;case h_2=>cases hk
  rename_i dC;obtain⟨h1,h2⟩:=tH hf r _ m xs h hl hk;rw[cU]at dC;have h3:=(hf t (c+1) ((xs.drop off).take (c+1)) hc).2 (by simp;omega) dC;refine⟨by omega,?_⟩;have h4:=rm h3 h2
  rwa [<- List.drop_drop,List.take_append_drop]at h4
theorem tI{g:List D->Bool}{c:Nat}(hg:∀ xs:List D,xs.length=c->g xs=true->cd xs xs=some true):∀ (n:Nat) (xs:List D),xs.length=n*c->vZ g c n xs=true->cd xs xs=some true
 | 0,xs,hl,_=>by
  have:xs = []:=List.length_eq_zero_iff.1 (by simpa using hl);subst this;rfl
 | n+1,xs,hl,hk=>by
  rw[Nat.succ_mul]at hl;simp only[vZ]at hk;split at hk;case h_2=>cases hk
  rename_i dC;have h1:=hg (xs.take c) (by simp;omega) dC;have h2:=tI hg n (xs.drop c) (by simp;omega) hk;have h3:=rm h1 h2
  rwa [List.take_append_drop]at h3
theorem tJ{T:dM}:∀ (d:Nat) (t:TypeId) (xs:List D) (n:Nat),flat T d t=some n->xs.length=n->n8 T d t xs=true->cd xs xs=some true
 | 0,_,_,_,h,_,_=>by simp[flat]at h
 | d+1,t,xs,n,h,hl,hk=>by
  simp only[flat]at h;split at h
  ·cases h
  rename_i ti fL;simp only[n8,fL]at hk;split at h
  ·rename_i dt
   simp only[dt]at hk;split at hk
   ·simp[cd,lH]
   ·cases hk
  ·rename_i dt
   simp only[dt]at hk;split at hk
   ·simp[cd,lH]
   ·cases hk
  ·rename_i dt
   simp only[dt]at hk;split at hk
   ·simp[cd,lH,r8]
   ·cases hk
  ·rename_i fs dt
   simp only[dt]at hk;split at h;case h_2=>cases h
   rename_i m _ hm;split at h;case h_2=>cases h
   cases h;have:=(tH (T:=T) (f:=fun t=>flat T d t) (g:=fun t xs=>n8 T d t xs) (fun t c xs hc=>⟨v3 d t c hc,fun hl hk=>tJ d t xs c hc hl hk⟩) fs 0 _ xs hm hl hk).2;simpa using this
  ·rename_i m e dt
   simp only[dt]at hk;split at h;case h_2=>cases h
   rename_i c hc;split at h;case h_2=>cases h
   cases h;obtain⟨ei,iB,mQ⟩:=v3 d e (c+1) hc;simp only[iB,mQ]at hk;exact tI (fun xs hl hk=>tJ d e xs _ hc hl hk) m xs hl hk
  ·cases h
theorem kD(hT:bj P T){F:Nat->Nat}{w:World}{kt:TypeId}{k:D}{x:Value}(ho:Hy P T kt k)(hx:bC F w k x){cc:List (D×D)}{es:List MapEntry}{r:Option (Nat×D)}(hf:findD k cc 0=some r)(hr:bH F w cc es) :
  (∀ b,(Instr.checkKey b 10000 kt x).run P w = .ok () w) /\ ∃ q,(Instr.findKey kt x es).run P w = .ok q w/\Found F w k es 0 r q:=by
 cases ho with
 | plain dk hk xk tY=>
  obtain⟨q,hq,hm⟩:=vX hx (Hl xk hx tY) hf hr;refine⟨fun b=>?_,q,by simp[Instr.findKey,run_underlying hk,hq],hm⟩;rw[show(10000:Nat)=9999+1 from rfl];unfold Instr.checkKey;rcases xk with⟨k,rfl⟩|rfl|rfl<;>simp[run_underlying hk]
 | wide dk cs n hk mP xk hc mK hl hi=>
  subst hc;obtain⟨lx,rfl,pE⟩:=hx;obtain⟨ti,fL,mP⟩:=mP;have sx:∀ (zs:List D) (l:Array Value),aY F w zs l.toList->mV T F w kt zs (.agg l):=fun zs l hl Qw ue=>by
   rw[fL]at ue;cases ue;rw[mP];exact⟨l,rfl,hl⟩
  have oy:∀ N,9<=N->wW P T F w N 9 kt n:=fun N hN=>oV hT 9 kt n mK N hN;refine⟨fun b=>((oy 10000 (by decide)).2 cs cs true hl hi (tJ 9 kt cs n mK hl hi) _ _ (sx _ _ pE) (sx _ _ pE)).2 b,?_⟩;have jS:∀ (k':D) (y:Value) (r:Bool),gE (.agg cs) k'=some r->bC F w k' y->(Op.equal kt (.agg lx) y).run P w = .ok r w:=by
   intro k' y r hs hy;cases k'<;>simp only[gE]at hs<;>try (cases hs;done)
   obtain⟨ly,rfl,re⟩:=hy;exact((oy Op.maxDepth (by decide)).2 cs _ r hl hi hs _ _ (sx _ _ pE) (sx _ _ re)).1
  obtain⟨q,hq,hm⟩:=vV (P:=P) (kt:=kt) (k:=.agg cs) (x:=.agg lx) ⟨lx,rfl,pE⟩ jS hf hr
  cases mQ:es with
  | nil=>
   subst mQ;have:cc = []:=by
    cases cc with
    | nil=>rfl
    | cons p r=>obtain⟨_,_,h,_⟩:=hr;cases h
   subst this;simp only[findD,Option.some.injEq]at hf;subst hf;exact⟨none,by simp[Instr.findKey,run_underlying hk,Instr.findNow],trivial⟩
  | cons en vg=>
   rw[<- mQ];refine⟨q,?_,hm⟩;have:Instr.findNow dk (.agg lx) es 0=none:=by rw[mQ];simp[Instr.findNow,xk]
   simp[Instr.findKey,run_underlying hk,this,hq]
theorem ta{F:Nat->Nat}{w:World}(hT:bj P T){el:TypeId}{ei:oQ}(iB:T.get el=some ei){z:D}(hz:wP ei=some z):∃ zv,(zeroValue el).run P w = .ok zv w/\bC F w z zv:=by
 obtain⟨i,d,hi,hd,_,_,_,_,_,AI⟩:=hT el ei iB;unfold wP at hz;split at hz
 ·rename_i l hl ha
  cases hz;obtain⟨zv,C3,vt,mP⟩:=AI _ hl;refine⟨zv,by simp[zeroValue,typeInfo,hi,C3],?_⟩;rw[ha]at mP;unfold zeroCells at vt;unfold Ch at mP;split at mP
  ·rename_i l' ho
   rw[ho]at vt;cases vt;exact lR ho
  ·cases mP
 ·rename_i l hl ha
  cases hz;obtain⟨zv,C3,vt,mP⟩:=AI _ hl;refine⟨zv,by simp[zeroValue,typeInfo,hi,C3],?_⟩;rw[ha]at mP;unfold zeroCells at vt;unfold Ch at mP;split at vt
  ·rename_i l' ho;rw[ho]at mP;cases mP
  ·cases vt
  ·rename_i v _ _ ho
   cases vt;exact lR ho
  ·cases vt
 ·cases hz
theorem uO{d:TypeDesc}(h:xD (ik d)=true):∀ ms,d ≠ .interface ms:=by
 rintro ms rfl;cases h
theorem qG(hT:bj P T){t:TypeId}{x:Operand}(hk:fo T e h dst (.makeInterface t x) K):∃ ws,K ws/\Out P e h ⟨dst,.makeInterface t x,ty,pos,after,guard⟩ ws:=by
 simp only[fo]at hk;split at hk;case h_2=>exact hk.elim
 rename_i ti v ht hx;obtain⟨hp,hk⟩:=bK hk;obtain⟨de,fV,dC⟩:=eb hT ht;rw[dC]at hp;have HZ:=uO hp;refine⟨_,hk,bp (v:=.d (.ifc t v)) (o:=⟨dst,.makeInterface t x,ty,pos,after,guard⟩) fun cx r m L F st a w he hh hg=>⟨.iface t (a.eval x),?_,⟨_,rfl,hg.aM (aG he hx)⟩⟩⟩;cases de<;>first|exact absurd rfl (HZ _)|simp[execOp,Instr.makeInterface,run_underlying fV]
theorem rh{yv:Option Nat}{L:Loc}{F:Nat->Nat}{w:World}{c b:Bool}{v:D}{x:Value}(h:bC F w v x):a6 yv L F w (oD c v b) (if c=true then .tuple #[x,.bool b] else x):=by
 cases c
 ·exact h
 ·exact⟨_,rfl,_,_,rfl,h,_,_,rfl,rfl,rfl⟩
theorem uM(hT:bj P T){x:Operand}{xt bw:TypeId}{c:Bool}(hk:fo T e h dst (.typeAssert x xt bw c) K):∃ ws,K ws/\Out P e h ⟨dst,.typeAssert x xt bw c,ty,pos,after,guard⟩ ws:=by
 simp only[fo]at hk;split at hk;case h_3=>exact hk.elim
 ·rename_i ti t v ht hx
  obtain⟨hp,fj⟩:=bK hk;clear hk;obtain⟨de,fV,dC⟩:=eb hT ht;rw[dC]at hp;have HZ:=uO hp;split at fj
  ·rename_i JP
   have:=Nat.eq_of_beq_eq_true JP;subst this;refine⟨_,fj,bp (v:=oD c v true) (o:=⟨dst,.typeAssert x xt t c,ty,pos,after,guard⟩) fun cx r m L F st a w he hh hg=>?_⟩;obtain⟨y,hy,hr⟩:=hg.aM (aG he hx);refine⟨if c=true then .tuple #[y,.bool true] else y,?_,rh hr⟩;cases de<;>first|exact absurd rfl (HZ _)|simp[execOp,Instr.typeAssert,run_underlying fV,hy]
  ·rename_i JP
   have eA:t≠bw:=by rintro rfl;simp at JP
   split at fj;case h_2=>exact fj.elim
   rename_i _ _ z hz;refine⟨_,fj,bp (v:=oD true z false) (o:=⟨dst,.typeAssert x xt bw true,ty,pos,after,guard⟩) fun cx r m L F st a w he hh hg=>?_⟩;obtain⟨y,hy,hr⟩:=hg.aM (aG he hx);obtain⟨zv,BM,H8⟩:=ta (F:=F) (w:=w) hT ht hz;refine⟨.tuple #[zv,.bool false],?_,rh (c:=true) H8⟩;cases de<;>first|exact absurd rfl (HZ _)|simp[execOp,Instr.typeAssert,run_underlying fV,hy,eA,BM]
 ·rename_i ti ht hx
  obtain⟨hp,fj⟩:=bK hk;clear hk;obtain⟨de,fV,dC⟩:=eb hT ht;rw[dC]at hp;have HZ:=uO hp;split at fj;case h_2=>exact fj.elim
  rename_i _ _ z hz;refine⟨_,fj,bp (v:=oD true z false) (o:=⟨dst,.typeAssert x xt bw true,ty,pos,after,guard⟩) fun cx r m L F st a w he hh hg=>?_⟩;have hy:a.eval x = .nilIface:=hg.aM (aG he hx);obtain⟨zv,BM,H8⟩:=ta (F:=F) (w:=w) hT ht hz;refine⟨.tuple #[zv,.bool false],?_,rh (c:=true) H8⟩;cases de<;>first|exact absurd rfl (HZ _)|simp[execOp,Instr.typeAssert,run_underlying fV,hy,BM]
theorem AW(hT:bj P T){t:TypeId}{x i:Operand}{c:Bool}(hk:fo T e h dst (.lookup t x i c) K):∃ ws,K ws/\Out P e h ⟨dst,.lookup t x i c,ty,pos,after,guard⟩ ws:=by
 simp only[fo]at hk;split at hk;case h_2=>exact hk.elim
 rename_i kt ki ei cc k hm xl hi;obtain⟨GD,⟨r,hf,hk⟩⟩:=bK hk;obtain⟨el,h1,h3,h5⟩:=s3 hT hm;have EJ:=xu hT h3 GD;have oa:∀ {σ:Type} (cx:Cx σ) (r:Option Nat) (m:List Nat) (L:Loc) (F:Nat->Nat) (st:St σ) (a:Act) (w:World),cM e st.env->cM h st.heap->Good cx r m L F st a w ->
   ∃ es:List MapEntry,bH F w cc es/\((a.eval x = .map none/\es = []) \/ ∃ b en cl,a.eval x = .map (some b)/\w.heap[b]?=some (.map en cl)/\en.toList=es):=by
  intro σ cx r m L F st a w he hh hg;unfold Ia at xl;split at xl
  ·rename_i qn hx
   cases xl;obtain⟨b,en,cl,cP,hF,hb,hr⟩:=hg.aM (aG he hx);exact⟨en.toList,hr,.inr ⟨b,en,cl,cP,hb,rfl⟩⟩
  ·rename_i hx
   cases xl;exact⟨[],rfl,.inl ⟨hg.aM (aG he hx),rfl⟩⟩
  ·rename_i id hx
   split at xl;case h_2=>cases xl
   rename_i qn ho;cases xl;obtain⟨en,cl,hb,hr,_⟩:=hg.heap.obj id _ (hh _ _ ho);exact⟨en.toList,hr,.inr ⟨_,en,cl,hg.aM (aG he hx),hb,rfl⟩⟩
  ·cases xl
 have bA:∀ {a:Act} {w:World} {es:List MapEntry} {q:Option (Nat×Value)},(∀ b,(Instr.checkKey b 10000 kt (a.eval i)).run P w = .ok () w)->(Instr.findKey kt (a.eval i) es).run P w = .ok q w->((a.eval x = .map none/\es = []) \/ ∃ b en cl,a.eval x = .map (some b)/\w.heap[b]?=some (.map en cl)/\en.toList=es) ->
   ∀ v ok,((∃ n,q=some (n,v))/\ok=true)\/(q=none/\ok=false/\(zeroValue el).run P w = .ok v w)->(Instr.lookup t (a.eval x) (a.eval i) c).run P w = .ok (if c then .tuple #[v,.bool ok] else v) w:=by
  intro a w es q oy hq hx v ok hv;rcases hx with⟨hx,rfl⟩|⟨b,en,cl,hx,hb,rfl⟩
  ·have BJ:(Instr.findKey kt (a.eval i) (#[]:Array MapEntry).toList).run P w = .ok q w:=hq
   rcases hv with⟨⟨n,rfl⟩,rfl⟩|⟨rfl,rfl,hz⟩
   ·simp[Instr.lookup,run_underlying h1,hx,oy,BJ]
   ·simp[Instr.lookup,run_underlying h1,hx,oy,BJ,hz]
  ·rcases hv with⟨⟨n,rfl⟩,rfl⟩|⟨rfl,rfl,hz⟩
   ·simp[Instr.lookup,run_underlying h1,hx,oy,hq,getObj,Sem.run,hb]
   ·simp[Instr.lookup,run_underlying h1,hx,oy,hq,getObj,Sem.run,hb,hz]
 have HW:∀ {F:Nat->Nat} {w:World} {yv:Option Nat} {L:Loc} {v:D} {u:Value} {ok:Bool},bC F w v u->a6 yv L F w (oD c v ok) (if c then .tuple #[u,.bool ok] else u):=by
  intro F w yv L v u ok hv;cases c
  ·exact hv
  ·exact⟨_,rfl,_,_,rfl,hv,_,_,rfl,rfl,rfl⟩
 cases r with
 | some nv=>
  obtain⟨n,v⟩:=nv;refine⟨_,hk,bp (o:=⟨dst,.lookup t x i c,ty,pos,after,guard⟩) fun cx r m L F st a w he hh hg=>?_⟩;obtain⟨es,hr,hx⟩:=oa cx r m L F st a w he hh hg;have oB:bC F w k (a.eval i):=hg.aM (aG he hi);obtain⟨oy,q,hq,hm⟩:=kD hT EJ oB hf hr
  cases q with
  | none=>exact hm.elim
  | some ju=>
   obtain⟨j,u⟩:=ju;obtain⟨rfl,hv,_⟩:=hm;exact⟨_,by simp[execOp,bA oy hq hx u true (.inl ⟨⟨n,rfl⟩,rfl⟩)],HW hv⟩
 | none=>
  simp only at hk;split at hk;case h_2=>exact hk.elim
  rename_i z hz;refine⟨_,hk,bp (o:=⟨dst,.lookup t x i c,ty,pos,after,guard⟩) fun cx r m L F st a w he hh hg=>?_⟩;obtain⟨es,hr,hx⟩:=oa cx r m L F st a w he hh hg;have oB:bC F w k (a.eval i):=hg.aM (aG he hi);obtain⟨oy,q,hq,hm⟩:=kD hT EJ oB hf hr
  cases q with
  | some ju=>exact hm.elim
  | none=>
   obtain⟨zv,BM,H8⟩:=ta (F:=F) (w:=w) hT h5 hz;exact⟨_,by simp[execOp,bA oy hq hx zv false (.inr ⟨rfl,rfl,BM⟩)],HW H8⟩
theorem bH.set{F:Nat->Nat}{w:World}{k v:D}{x y:Value}(hk:bC F w k x)(hv:bC F w v y):∀ {cc:List (D×D)} {es:List MapEntry} (n:Nat),bH F w cc es->bH F w (cc.set n (k,v)) (es.modify n fun e=>{ e with key:=x,val:=y })
 | [],es,n,h=>by rw[show es = [] from h];cases n<;>rfl
 | (k',v')::r,es,0,h=>by
  obtain⟨en,vg,rfl,_,_,hr⟩:=h;exact⟨{ en with key:=x,val:=y },vg,by simp,hk,hv,hr⟩
 | (k',v')::r,es,n+1,h=>by
  obtain⟨en,vg,rfl,h1,h2,hr⟩:=h;exact⟨en,vg.modify n fun e=>{ e with key:=x,val:=y },by simp,h1,h2,bH.set hk hv n hr⟩
theorem bH.push{F:Nat->Nat}{w:World}{k v:D}{x y:Value}{b:Nat}(hk:bC F w k x)(hv:bC F w v y):∀ {cc:List (D×D)} {es:List MapEntry},bH F w cc es->bH F w (cc ++ [(k,v)]) (es ++ [{ key:=x,val:=y,born:=b }])
 | [],es,h=>by rw[show es = [] from h];exact⟨_,[],rfl,hk,hv,rfl⟩
 | (k',v')::r,es,h=>by
  obtain⟨en,vg,rfl,h1,h2,hr⟩:=h;exact⟨en,vg ++ [{ key:=x,val:=y,born:=b }],by simp,h1,h2,bH.push hk hv hr⟩
theorem A4{F:Nat->Nat}{w:World}{n:Nat}{a:D}{x y:Value}(h:lH a a=some true)(hx:bC F w a x)(hy:bC F w a y):x=y/\Instr.sameBits (n+1) x y=true:=by
 cases a<;>simp only[lH]at h<;>try (cases h;done)
 ·cases hx;cases hy;exact⟨rfl,by simp[Instr.sameBits]⟩
 ·cases hx;cases hy;exact⟨rfl,by simp[Instr.sameBits]⟩
 ·rename_i t v
  obtain⟨x1,rfl,h1⟩:=hx;obtain⟨y1,rfl,h2⟩:=hy;cases v<;>simp[r8]at h
  cases h1;cases h2
  exact⟨rfl,by cases n<;>simp[Instr.sameBits]⟩
theorem vM{F:Nat->Nat}{w:World}{n:Nat}:∀ {cs:List D} {l m:List Value},cd cs cs=some true->aY F w cs l->aY F w cs m->l=m/\(l.zip m).all (fun(x,y)=>Instr.sameBits (n+1) x y)=true
 | [],l,m,_,hl,hm=>by
  have hl:l = []:=hl;have hm:m = []:=hm;subst hl hm;exact⟨rfl,rfl⟩
 | c::cs,l,m,hi,hl,hm=>by
  obtain⟨x,l',rfl,hx,hl⟩:=hl;obtain⟨y,m',rfl,hy,hm⟩:=hm;simp only[cd]at hi;split at hi;case h_2=>cases hi
  rename_i p q hp hq;simp only[Option.some.injEq,Bool.and_eq_true]at hi;obtain⟨rfl,rfl⟩:=hi;obtain⟨h1,h2⟩:=vM (n:=n) (cs:=cs) hq hl hm;obtain⟨h3,h4⟩:=A4 (n:=n) hp hx hy;exact⟨by rw[h1,h3],by simp only[List.zip_cons_cons,List.all_cons,h2,h4,Bool.and_true]⟩
theorem rq{F:Nat->Nat}{w:World}{k k':D}{x y:Value}(hx:bC F w k x)(hy:bC F w k' y)(h:gE k k'=some true):Instr.sameBits 10000 y x=true:=by
 cases k<;>cases k'<;>simp only[gE]at h<;>try (cases h;done)
 ·cases hx;cases hy
  rename_i a b;have h:=Option.some.inj h;show(b ==a)=true;cases a<;>cases b<;>simp_all
 ·cases hx;cases hy
  rename_i k1 a k2 b;split at h
  ·rename_i he
   have he:=of_decide_eq_true he;have h:=of_decide_eq_true (Option.some.inj h);subst he;subst h;simp[Instr.sameBits]
  ·cases h
 ·cases hx;cases hy
  have h:=of_decide_eq_true (Option.some.inj h);subst h;show(_ ==_)=true;rw[DS];simp
 ·obtain⟨lx,rfl,pE⟩:=hx
  obtain⟨ly,rfl,re⟩:=hy;have h1:=uU h;subst h1;obtain⟨e,hb⟩:=vM (n:=9998) h re pE;have:ly=lx:=Array.ext' e;subst this;rw[show(10000:Nat)=9999+1 from rfl];unfold Instr.sameBits;rw[Bool.and_eq_true];exact⟨by simp,hb⟩
theorem bH.ru{F:Nat->Nat}{w:World}{k:D}{x:Value}(hk:bC F w k x):∀ {cc:List (D×D)} {es:List MapEntry} (n:Nat),bH F w cc es->bH F w (ru cc n k) (es.modify n fun e=>{ e with key:=x })
 | [],es,n,h=>by rw[show es = [] from h];cases n<;>rfl
 | (k',v')::r,es,0,h=>by
  obtain⟨en,vg,rfl,_,hv,hr⟩:=h;exact⟨{ en with key:=x },vg,by simp,hk,hv,hr⟩
 | (k',v')::r,es,n+1,h=>by
  obtain⟨en,vg,rfl,h1,h2,hr⟩:=h;exact⟨en,vg.modify n fun e=>{ e with key:=x },by simp,h1,h2,bH.ru hk n hr⟩
theorem bH.mz{F:Nat->Nat}{w:World}{v:D}{x:Value}(hk:bC F w v x):∀ {cc:List (D×D)} {es:List MapEntry} (n:Nat),bH F w cc es->bH F w (mz cc n v) (es.modify n fun e=>{ e with val:=x })
 | [],es,n,h=>by rw[show es = [] from h];cases n<;>rfl
 | (k',v')::r,es,0,h=>by
  obtain⟨en,vg,rfl,fK,_,hr⟩:=h;exact⟨{ en with val:=x },vg,by simp,fK,hk,hr⟩
 | (k',v')::r,es,n+1,h=>by
  obtain⟨en,vg,rfl,h1,h2,hr⟩:=h;exact⟨en,vg.modify n fun e=>{ e with val:=x },by simp,h1,h2,bH.mz hk n hr⟩
theorem pG.modify{en:Array MapEntry}{c:Nat}(h:pG en c){f:MapEntry->MapEntry}(hf:∀ e,(f e).born=e.born)(n:Nat):pG (en.modify n f) c:=by
 refine⟨by simpa using h.1,fun i e he=>?_⟩;rw[Array.getElem?_modify]at he;split at he
 ·obtain⟨e',HP,rfl⟩:=Option.map_eq_some_iff.1 he
  rw[hf];exact h.2 i e' HP
 ·exact h.2 i e he
theorem pG.push{en:Array MapEntry}{c:Nat}(h:pG en c)(k v:Value):pG (en.push { key:=k,val:=v,born:=c }) (c+1):=by
 refine⟨by simp[h.1],fun i e he=>?_⟩;rw[Array.getElem?_push]at he;split at he
 ·rename_i hi
  cases he;rw[hi];exact h.1
 ·exact h.2 i e he
theorem qt{σ:Type}{cx:Cx σ}{r:Option Nat}{m:List Nat}{L:Loc}{F:Nat->Nat}{st:St σ}{a:Act}{w:World}(hg:Good cx r m L F st a w){id:Nat}{cc qn:List (D×D)}(h0:get st.heap id=some (.map cc)){en en':Array MapEntry}{cl cl':Nat}(hb:w.heap[L.ρ id]?=some (.map en cl))
  (hr:bH F w qn en'.toList) (o6:pG en' cl') :
  Good cx r m L F (bE st (.obj id (.map qn))) a { w with heap:=w.heap.setIfInBounds (L.ρ id) (.map en' cl') }/\Tr F w F { w with heap:=w.heap.setIfInBounds (L.ρ id) (.map en' cl') }:=by
 have eC:=(Array.getElem?_eq_some_iff.1 hb).1;have hF:=(hg.heap.own id _ h0 trivial).1;have g8:∀ z,z≠L.ρ id->({ w with heap:=w.heap.setIfInBounds (L.ρ id) (.map en' cl') }:World).heap[z]?=w.heap[z]?:=fun z hz=>by simp[Array.getElem?_setIfInBounds_ne (Ne.symm hz)]
 have tr:Tr F w F { w with heap:=w.heap.setIfInBounds (L.ρ id) (.map en' cl') }:=
  .gV rfl rfl rfl (by simp) (fun _=>Nat.le_refl _) hg.heap.fresh fun b _ Re=>g8 b (by rintro rfl;omega)
 exact hg.obj (o:=.map qn) h0 trivial (w':={ w with heap:=w.heap.setIfInBounds (L.ρ id) (.map en' cl') }) rfl rfl rfl (by simp) g8
  (by rw[hb];intro ds e;cases e) (by rw[hb];intro lp e;cases e) ⟨en',cl',by simp[Array.getElem?_setIfInBounds,eC],bH.mono tr _ _ hr,o6⟩
theorem vz(hT:bj P T){t:TypeId}{x i y:Operand}(hk:fo T e h dst (.mapUpdate t x i y) K):∃ ws,K ws/\Out P e h ⟨dst,.mapUpdate t x i y,ty,pos,after,guard⟩ ws:=by
 simp only[fo]at hk;split at hk;case h_2=>exact hk.elim
 rename_i kt ki ei id k v hm hx hi hy;split at hk;case h_2=>exact hk.elim
 rename_i cc ho;obtain⟨GD,⟨q0,hf,hk⟩⟩:=bK hk;obtain⟨el,h1,h3,h5⟩:=s3 hT hm;have EJ:=xu hT h3 GD;have main:∀ (qn:List (D×D)),(∀ {F:Nat->Nat} {w:World} {a:Act} {en:Array MapEntry} {cl:Nat},bC F w k (a.eval i)->bC F w v (a.eval y)->bH F w cc en.toList->pG en cl ->
   ∃ en' cl',(∀ b,a.eval x = .map (some b)->w.heap[b]?=some (.map en cl)->(Instr.mapUpdate t (a.eval x) (a.eval i) (a.eval y)).run P w = .ok () { w with heap:=w.heap.setIfInBounds b (.map en' cl') })/\bH F w qn en'.toList/\pG en' cl') ->
   Out P e h ⟨none,.mapUpdate t x i y,ty,pos,after,guard⟩ [.obj id (.map qn)]:=by
  intro qn bA σ cx r m L F st a w he hh hg hd;have cP:a.eval x = .map (some (L.ρ id)):=hg.aM (aG he hx);have oB:bC F w k (a.eval i):=hg.aM (aG he hi);have C2:bC F w v (a.eval y):=hg.aM (aG he hy);have h0:=hh _ _ ho;obtain⟨en,cl,hb,hr,o6⟩:=hg.heap.obj id _ h0;obtain⟨en',cl',CN,zP,II⟩:=bA (a:=a) (cl:=cl) oB C2 hr o6;obtain⟨g1,g2⟩:=qt hg h0 hb zP II;exact⟨undef,_,.skip,by simp[execOp,CN _ cP hb],.inr ⟨rfl,rfl⟩,L,F,g1,g2⟩
 cases q0 with
 | some nv=>
  obtain⟨n,u⟩:=nv;refine⟨_,hk,main _ fun {F w a en cl} oB C2 hr o6=>?_⟩;obtain⟨oy,q,hq,hm⟩:=kD hT EJ oB hf hr
  cases q with
  | none=>exact hm.elim
  | some ju=>
   obtain⟨j,u'⟩:=ju;obtain⟨rfl,_,_,eC,yi,IS,kk,tY,wc⟩:=hm;refine⟨en.modify n fun e=>{ e with key:=a.eval i,val:=a.eval y },cl,fun b GW hb=>?_,by rw[Array.toList_modify];exact bH.set oB C2 n hr,o6.modify (f:=fun e=>{ e with key:=a.eval i,val:=a.eval y }) (fun _=>rfl) n⟩;have mI:=rq oB tY wc;have CL:en[n]?=some yi:=by simpa using IS
   simp[Instr.mapUpdate,run_underlying h1,GW,getObj,setObj,Sem.run,hb,oy,hq,Instr.keyThatStays,CL,mI]
 | none=>
  refine⟨_,hk,main _ fun {F w a en cl} oB C2 hr o6=>?_⟩;obtain⟨oy,q,hq,hm⟩:=kD hT EJ oB hf hr
  cases q with
  | some ju=>exact hm.elim
  | none=>
   refine⟨en.push { key:=a.eval i,val:=a.eval y,born:=cl },cl+1,fun b GW hb=>?_,by simpa using bH.push oB C2 hr,o6.push _ _⟩;simp[Instr.mapUpdate,run_underlying h1,GW,getObj,setObj,Sem.run,hb,oy,hq]
theorem AV(hT:bj P T){t:TypeId}{x i y:Operand}(hk:fo T e h dst (.insert t x i y) K):∃ ws,K ws/\Out P e h ⟨dst,.insert t x i y,ty,pos,after,guard⟩ ws:=by
 simp only[fo]at hk;split at hk;case h_2=>exact hk.elim
 rename_i kt ki ei id k v hm hx hi hy;split at hk;case h_2=>exact hk.elim
 rename_i cc ho;obtain⟨GD,⟨q0,hf,hk⟩⟩:=bK hk;obtain⟨el,h1,h3,h5⟩:=s3 hT hm;have EJ:=xu hT h3 GD;have main:∀ (qn:List (D×D)),(∀ {F:Nat->Nat} {w:World} {a:Act} {en:Array MapEntry} {cl:Nat},bC F w k (a.eval i)->bC F w v (a.eval y)->bH F w cc en.toList->pG en cl ->
   ∃ en' cl',(∀ b,a.eval x = .map (some b)->w.heap[b]?=some (.map en cl)->(Instr.mapUpdate t (a.eval x) (a.eval i) (a.eval y)).run P w = .ok () { w with heap:=w.heap.setIfInBounds b (.map en' cl') })/\bH F w qn en'.toList/\pG en' cl') ->
   Out P e h ⟨none,.insert t x i y,ty,pos,after,guard⟩ [.obj id (.map qn)]:=by
  intro qn bA σ cx r m L F st a w he hh hg hd;have cP:a.eval x = .map (some (L.ρ id)):=hg.aM (aG he hx);have oB:bC F w k (a.eval i):=hg.aM (aG he hi);have C2:bC F w v (a.eval y):=hg.aM (aG he hy);have h0:=hh _ _ ho;obtain⟨en,cl,hb,hr,o6⟩:=hg.heap.obj id _ h0;obtain⟨en',cl',CN,zP,II⟩:=bA (a:=a) (cl:=cl) oB C2 hr o6;obtain⟨g1,g2⟩:=qt hg h0 hb zP II;exact⟨undef,_,.skip,by simp[execOp,CN _ cP hb],.inr ⟨rfl,rfl⟩,L,F,g1,g2⟩
 cases q0 with
 | some nv=>
  obtain⟨n,u⟩:=nv;refine⟨_,hk,main _ fun {F w a en cl} oB C2 hr o6=>?_⟩;obtain⟨oy,q,hq,hm⟩:=kD hT EJ oB hf hr
  cases q with
  | none=>exact hm.elim
  | some ju=>
   obtain⟨j,u'⟩:=ju;obtain⟨rfl,_,_,eC,yi,IS,kk,tY,wc⟩:=hm;refine⟨en.modify n fun e=>{ e with key:=a.eval i,val:=a.eval y },cl,fun b GW hb=>?_,by rw[Array.toList_modify];exact bH.set oB C2 n hr,o6.modify (f:=fun e=>{ e with key:=a.eval i,val:=a.eval y }) (fun _=>rfl) n⟩;have mI:=rq oB tY wc;have CL:en[n]?=some yi:=by simpa using IS
   simp[Instr.mapUpdate,run_underlying h1,GW,getObj,setObj,Sem.run,hb,oy,hq,Instr.keyThatStays,CL,mI]
 | none=>
  refine⟨_,hk,main _ fun {F w a en cl} oB C2 hr o6=>?_⟩;obtain⟨oy,q,hq,hm⟩:=kD hT EJ oB hf hr
  cases q with
  | some ju=>exact hm.elim
  | none=>
   refine⟨en.push { key:=a.eval i,val:=a.eval y,born:=cl },cl+1,fun b GW hb=>?_,by simpa using bH.push oB C2 hr,o6.push _ _⟩;simp[Instr.mapUpdate,run_underlying h1,GW,getObj,setObj,Sem.run,hb,oy,hq]
theorem xB(hT:bj P T){t:TypeId}{x i:Operand}(hk:fo T e h dst (.mapEntry t x i) K):∃ ws,K ws/\Out P e h ⟨dst,.mapEntry t x i,ty,pos,after,guard⟩ ws:=by
 simp only[fo]at hk;split at hk;case h_2=>exact hk.elim
 rename_i d kt ki ei id k hm hx hi;split at hk;case h_2=>exact hk.elim
 rename_i cc ho;obtain⟨GD,⟨q0,hf,hk⟩⟩:=bK hk;obtain⟨el,h1,h3,h5⟩:=s3 hT hm;have EJ:=xu hT h3 GD
 cases q0 with
 | some nv=>
  obtain⟨n,u⟩:=nv;refine⟨_,hk,?_⟩;intro σ cx r m L F st a w he hh hg hd;have cP:a.eval x = .map (some (L.ρ id)):=hg.aM (aG he hx);have oB:bC F w k (a.eval i):=hg.aM (aG he hi);have h0:=hh _ _ ho;obtain⟨en,cl,hb,hr,o6⟩:=hg.heap.obj id _ h0;obtain⟨oy,q,hq,hm⟩:=kD hT EJ oB hf hr
  cases q with
  | none=>exact hm.elim
  | some ju=>
   obtain⟨j,u'⟩:=ju;obtain⟨rfl,hu,_,eC,yi,IS,kk,tY,wc⟩:=hm;have mI:=rq oB tY wc;have CL:en[n]?=some yi:=by simpa using IS
   obtain⟨g1,g2⟩:=qt hg h0 (en':=en.modify n fun e=>{ e with key:=a.eval i }) (cl':=cl) hb (by rw[Array.toList_modify];exact bH.ru oB n hr) (o6.modify (f:=fun e=>{ e with key:=a.eval i }) (fun _=>rfl) n);refine⟨.tuple #[u',goInt n],_,_,?_,.inl rfl,L,F,g1.set (v:=.d (.tup [u,.int .i64 n])) (hd d rfl) ⟨_,rfl,_,_,rfl,bC.mono g2 _ _ hu,_,_,rfl,rfl,rfl⟩,g2⟩;simp[execOp,Instr.mapEntry,run_underlying h1,cP,getObj,setObj,Sem.run,hb,oy,hq,Instr.keyThatStays,CL,mI,o6.2 n yi CL]
 | none=>
  simp only at hk;split at hk;case h_2=>exact hk.elim
  rename_i z hz;refine⟨_,hk,?_⟩;intro σ cx r m L F st a w he hh hg hd;have cP:a.eval x = .map (some (L.ρ id)):=hg.aM (aG he hx);have oB:bC F w k (a.eval i):=hg.aM (aG he hi);have h0:=hh _ _ ho;obtain⟨en,cl,hb,hr,o6⟩:=hg.heap.obj id _ h0;obtain⟨oy,q,hq,hm⟩:=kD hT EJ oB hf hr
  cases q with
  | some ju=>exact hm.elim
  | none=>
   obtain⟨zv,BM,H8⟩:=ta (F:=F) (w:=w) hT h5 hz;obtain⟨g1,g2⟩:=qt hg h0 (en':=en.push { key:=a.eval i,val:=zv,born:=cl }) (cl':=cl+1) hb (by simpa using bH.push oB H8 hr) (o6.push _ _);have vn:cl=cc.length:=by
    have:=bH.get hr;rw[o6.1];simpa using this
   refine⟨.tuple #[zv,goInt cl],_,_,?_,.inl rfl,L,F,g1.set (v:=.d (.tup [z,.int .i64 cc.length])) (hd d rfl) ⟨_,rfl,_,_,rfl,bC.mono g2 _ _ H8,_,_,rfl,by rw[vn];rfl,rfl⟩,g2⟩;simp[execOp,Instr.mapEntry,run_underlying h1,cP,getObj,setObj,Sem.run,hb,oy,hq,BM]
theorem uK(hT:bj P T){t:TypeId}{x i y:Operand}(hk:fo T e h dst (.entryStore t x i y) K):∃ ws,K ws/\Out P e h ⟨dst,.entryStore t x i y,ty,pos,after,guard⟩ ws:=by
 simp only[fo]at hk;split at hk;case h_2=>exact hk.elim
 rename_i id n v hx hi hy;split at hk;case h_2=>exact hk.elim
 rename_i cc ho;obtain⟨hc,hk⟩:=bK hk;simp only[Bool.and_eq_true,decide_eq_true_eq]at hc;refine⟨_,hk,?_⟩;intro σ cx r m L F st a w he hh hg hd;have cP:a.eval x = .map (some (L.ρ id)):=hg.aM (aG he hx);have iY:a.eval i = .int .i64 n:=hg.aM (aG he hi);have C2:bC F w v (a.eval y):=hg.aM (aG he hy);have h0:=hh _ _ ho;obtain⟨en,cl,hb,hr,o6⟩:=hg.heap.obj id _ h0;have cU:en.size=cc.length:=by simpa using bH.get hr
 obtain⟨g1,g2⟩:=qt hg h0 (en':=en.modify n.toNat fun e=>{ e with val:=a.eval y }) (cl':=cl) hb (by rw[Array.toList_modify];exact bH.mz C2 n.toNat hr) (o6.modify (f:=fun e=>{ e with val:=a.eval y }) (fun _=>rfl) _);have Ev:en.findIdx? (fun e=>(e.born:Int) ==n)=some n.toNat:=by
  rw[Array.findIdx?_eq_some_iff_getElem];refine⟨by omega,?_,fun j hj=>?_⟩
  ·have:=o6.2 n.toNat _ (Array.getElem?_eq_getElem (by omega))
   simp[this];omega
  ·have:=o6.2 j _ (Array.getElem?_eq_getElem (by omega))
   simp[this];omega
 refine⟨undef,_,.skip,?_,.inr ⟨rfl,rfl⟩,L,F,g1,g2⟩;simp[execOp,Instr.entryStore,cP,iY,getObj,setObj,Sem.run,hb,Ev,asInt,asIntOf]
end
theorem oK{α:Type}{z:List α}:∀ {n j:Nat} {c:α},(List.replicate n z).flatten[j]?=some c->z[j%z.length]?=some c
 | 0,j,c,h=>by simp at h
 | n+1,j,c,h=>by
  rw[List.replicate_succ,List.flatten_cons]at h;by_cases hj:j<z.length
  ·rw[List.getElem?_append_left hj]at h
   rw[Nat.mod_eq_of_lt hj];exact h
  ·rw[List.getElem?_append_right (by omega)]at h
   rw[Nat.mod_eq_sub_mod (by omega)];exact oK h
theorem Good.zq{σ:Type}{cx:Cx σ}{r:Option Nat}{m:List Nat}{L:Loc}{F:Nat->Nat}{st st':St σ}{a:Act}{w:World}(hh:Good cx r m L F st a w)(hg:∀ i,get st'.heap i=get st.heap i)(he:st'.env=st.env:=by rfl)(hs:st'.s=st.s:=by rfl):Good cx r m L F st' a w:=by
 cases st with|mk e h s=>
 cases st' with|mk e' h' s'=>
 have he:e'=e:=he;have hs:s'=s:=hs;have hg:∀ i,get h' i=get h i:=hg;subst he hs;obtain⟨⟨h1,h2,h3,h4,h5,h6⟩,h7,h8,h9,Ej,M1,M3,OF⟩:=hh;exact⟨⟨h1,h2,h3,fun i o hi=>h4 i o (by rw[<- hg i];exact hi),fun i o hi=>h5 i o (by rw[<- hg i];exact hi),fun i j o p hi hj=>h6 i j o p (by rw[<- hg i];exact hi) (by rw[<- hg j];exact hj)⟩,h7,h8,h9,Ej,M1,M3,OF⟩
section
variable {P : Program} {T : dM} {e : Env} {h : av} {dst : Option Nat} {K : List Wr -> Prop} {ty : TypeId} {pos : String} {after : Array Edge} {guard : Option (Nat × Bool)}
theorem vy(hT:bj P T){t:TypeId}{l c:Operand}(hk:fo T e h dst (.makeSlice t l c) K):∃ ws,K ws/\Out P e h ⟨dst,.makeSlice t l c,ty,pos,after,guard⟩ ws:=by
 simp only[fo]at hk;split at hk;case h_2=>exact hk.elim
 rename_i ei n m d hs hl hc;split at hk;case h_2=>exact hk.elim
 rename_i z AI;obtain⟨Gv,hk⟩:=bK hk;simp only[Bool.and_eq_true,decide_eq_true_eq]at Gv;obtain⟨e7,h0,pa⟩:=Gv;obtain⟨jL,hk⟩:=bK hk;have jL:=of_decide_eq_true jL;obtain⟨el,hu,iB⟩:=jC hT hs;have GK:=e7;simp only[l4,Bool.and_eq_true,Bh,AI]at GK;have Ns:z.length=ei.size:=dc GK.2;obtain⟨i,dd,kS,xj,ea,o7,_,_,_,hz⟩:=hT el ei iB;obtain⟨zv,C3,vt,_⟩:=hz z AI;obtain⟨_,_,_,_,cU,Bz,_,_,_⟩:=pT hT iB e7;refine⟨_,hk,?_⟩;intro σ cx r mm L F st a w he hh hg hd;have O7:a.eval l = .int .i64 n:=hg.aM (aG he hl);have O8:a.eval c = .int .i64 m:=hg.aM (aG he hc);have Ry:0<=m:=by omega
 have T0:m<=m*(ei.bytes:Int):=by
  have h1:(1:Int)<=(ei.bytes:Int):=by omega
  calc m=m*1:=by omega
   _<=m*(ei.bytes:Int):=Int.mul_le_mul_of_nonneg_left h1 Ry
 have hr:=run_make (P:=P) w t el i zv hu kS C3 .i64 .i64 n m h0 pa (by rw[<- o7,Int.mul_comm];omega) (by omega);have BM:∀ w':World,aY F w' z zv.cells.toList:=fun w'=>hP vt;have H9:zv.cells.size=ei.size:=by
  have:=(BM w).length;rw[Ns]at this;simpa using this
 generalize hcells:madeCells zv.cells (m.toNat*i.size)=cells at hr;have o8:cells.size=m.toNat*ei.size:=by rw[<- hcells,size_madeCells,ea]
 have fY:cJ ei.size (aC.dd (List.replicate n.toNat z)).aU:=by
  intro e he;simp only[aC.aU,cB,List.mem_map]at he;obtain⟨y,hy,rfl⟩:=he;rw[List.eq_of_mem_replicate hy,dI,Ns]
 have sn:(aC.dd (List.replicate n.toNat z)).aU.length=n.toNat:=by simp[aC.aU,cB]
 have hle:n.toNat*ei.size<=m.toNat*ei.size:=Nat.mul_le_mul_right _ (by omega);have tr:Tr F w F (w.alloc (.cells cells el)):=Tr.alloc hg.heap.fresh _;have rP:aq cx.yv L F w (aC.dd (List.replicate n.toNat z)).aU.flatten (cells.toList.take (n.toNat*ei.size)):=by
  show aq _ _ _ _ (aO _).flatten _;rw[cI];have mK:(List.replicate n.toNat z).flatten.length=n.toNat*ei.size:=by
   simp[Ns]
  refine .jh (by rw[dI,mK];simp;omega) fun j v hj=>?_;have EF:j<n.toNat*ei.size:=by
   have:=(List.getElem?_eq_some_iff.1 hj).1;rw[dI,mK]at this;exact this
  rw[List.getElem?_take_of_lt EF];simp only[sX,Option.map_eq_some_iff]at hj;obtain⟨v',C1,rfl⟩:=hj;have:=oK C1;obtain⟨x,hx,L8⟩:=aY.get _ (BM w) this;refine⟨x,?_,L8⟩;rw[<- hcells];have BE:j<m.toNat*i.size:=by rw[<- ea];omega
  rw[Ns,<- H9]at hx;have kl:zv.cells[j%zv.cells.size]?=some x:=by simpa using hx
  have eC:=(Array.getElem?_eq_some_iff.1 kl).1;have:zv.cells[j%zv.cells.size]! =x:=by
   rw[getElem!_pos zv.cells (j%zv.cells.size) eC];exact(Array.getElem?_eq_some_iff.1 kl).2
  simp[madeCells,BE,this]
 have oz:=hg.new d cells.size (.arr ei.size (.dd (List.replicate n.toNat z))) (.cells cells el) (hg.eh (hd d rfl)) ⟨cU,fY,.inr ⟨cells,el,(by show(w.alloc _).heap[if d=d then w.heap.size else L.ρ d]?=_;rw[if_pos rfl];exact heap_alloc_new w _),(by simp),(by rw[sn,o8];exact hle),(by
  rw[sn];exact aq.jZ (L:=L) (id:=d) tr (fun i hi=>by simp[hi]) (mZ (c:=.dd _) rfl) rP)⟩⟩
 have bA:(execOp a.eval ⟨some d,.makeSlice t l c,ty,pos,after,guard⟩).run P w = .ok (.value (.slice (some ⟨w.heap.size,0,none⟩) n.toNat m.toNat)) (w.alloc (.cells cells el)):=by
  simp[execOp,O7,O8,hr]
 refine⟨_,_,_,bA,.inl rfl,_,F,oz.set (v:=.sl d ei.size 0 n.toNat) (hd d rfl) ⟨_,_,rfl,by omega,cU,.inr ⟨(by simp),(by simp[o8])⟩⟩,tr⟩
theorem Fu{w:World}{dT sT ty el:TypeId}{i:TypeInfo}(hu:P.underlying dT=some (.slice el))(hi:P.info? el=some i)(hs:i.size=1){base ay:Option Addr}{dLen dCap sLen sCap:Nat}{cs:List Value}
  (hl:cs.length=min sLen dLen) (hc:cs = [] \/ ∃ b off,ay=some ⟨b,off,none⟩ /\ ∀ (j:Nat) v,cs[j]?=some v->w.cell? ⟨b,off+j,none⟩=some v)
  {g o:Nat} {cur:Array Value} {t:TypeId} (hb:cs = []\/base=some ⟨g,o,none⟩) (hg:w.heap[g]?=some (.cells cur t (0,0))) (hf:o+cs.length<=cur.size) (h1:∀ v∈cs,v.oneCell'=true) :
  (Builtin.copy_ #[dT,sT] ty #[.slice base dLen dCap,.slice ay sLen sCap]).run P w = .ok (goInt cs.length) (w.setRow g (cur.toList.take o++cs++cur.toList.drop (o+cs.length)).toArray):=by
 rcases hb with rfl|rfl
 ·have GH:min sLen dLen=0:=by simpa using hl.symm
  have GJ:Nat.min sLen dLen=0:=GH;have ud:w.setRow g (cur.toList.take o ++ []++cur.toList.drop (o+([]:List Value).length)).toArray=w:=by
   simp only[List.append_nil,List.length_nil,Nat.add_zero,List.take_append_drop,Array.toArray_toList];exact setRow_self w g cur t (0,0) hg
  rw[ud];cases base<;>cases ay<;>simp[Builtin.copy_,run_underlying hu,Builtin.lenOf,Builtin.firstCells,sizeOf,typeInfo,hi,hs,GJ,storeCells,loadCells,loadCellsFrom]
 ·rcases hc with rfl|⟨b,off,rfl,hj⟩
  ·have GH:min sLen dLen=0:=by simpa using hl.symm
   have GJ:Nat.min sLen dLen=0:=GH;have ud:w.setRow g (cur.toList.take o ++ []++cur.toList.drop (o+([]:List Value).length)).toArray=w:=by
    simp only[List.append_nil,List.length_nil,Nat.add_zero,List.take_append_drop,Array.toArray_toList];exact setRow_self w g cur t (0,0) hg
   rw[ud];cases ay<;>simp[Builtin.copy_,run_underlying hu,Builtin.lenOf,Builtin.firstCells,sizeOf,typeInfo,hi,hs,GJ,storeCells,loadCells,loadCellsFrom]
  ·exact run_copy_row P w dT sT ty el g o dLen dCap ⟨b,off,none⟩ sLen sCap cur t cs hu (by simp[hi,hs]) hg hl (fun j v hv=>by rw[eF];exact hj j v hv) hf h1
theorem Fc(hT:bj P T){args:Array Operand}{tys:Array TypeId}(hk:dW T e h dst .copy args tys K):∃ ws,K ws/\Out P e h ⟨dst,.call ⟨.builtin .copy,args,tys⟩,ty,pos,after,guard⟩ ws:=by
 simp only[dW]at hk;split at hk;case h_2=>exact hk.elim
 rename_i x y t u cr yL;split at hk;case h_2=>exact hk.elim
 rename_i ei ui id sz off n v iB J0 hx hy;split at hk;case h_2=>exact hk.elim
 rename_i mm es mQ;obtain⟨hc,dC⟩:=bK hk;clear hk;simp only[Bool.and_eq_true]at hc;obtain⟨qh,Ma,CV⟩:=hc;have qh:=dc qh;have Ma:=dc Ma;have CV:=dc CV;subst Ma CV;obtain⟨fs,rQ,hk⟩:=yg dC;clear dC;split at hk;case h_2=>exact hk.elim
 rename_i fs;obtain⟨hc,hk⟩:=bK hk;simp only[Bool.and_eq_true]at hc;obtain⟨hle,mK⟩:=hc;have hle:=lg hle;obtain⟨el,sw,sk⟩:=jC hT iB;obtain⟨ie,dd,kS,xj,ea,o7,_⟩:=hT el ei sk;refine⟨_,hk,?_⟩;intro σ cx r m L F st a w he hh hg hd;obtain⟨base,cap,cP,Nk,_,hb⟩:=hg.aM (aG he hx);have tU:∀ e∈(aC.dd fs).aU,e.length=1/\cb e=true:=w9 (es:=.dd fs) mK;have CN:=hh _ _ mQ;obtain⟨_,fY,fe⟩:=hg.heap.obj id _ CN;obtain⟨ay,Kk,news,GX,K5,FV,mL,kx⟩:=pW hh hg.heap rQ (hg.aM (aG he hy)) (fun e he=>(tU e he).1) (Nat.one_pos);have h1:=FV.one (e9 fun e he=>(tU e he).2);have IU:(aC.dd fs).aU.length=fs.length:=by simp[aC.aU,cB]
 rw[IU,Nat.mul_one]at mL;rw[IU]at GX;have sn:(aC.dd es).aU.length=es.length:=by simp[aC.aU,cB]
 generalize tY:min fs.length n=k at hk ⊢;have xi:args.map a.eval = #[.slice base n cap,a.eval y]:=by
  apply Array.ext';simp[cr,cP]
 have H5:tys = #[t,u]:=by
  apply Array.ext';simp[yL]
 have EG:k<=fs.length:=by omega
 have Ni:k<=n:=by omega
 have zM:(news.take k).length=k:=by rw[List.length_take,mL];omega
 have GP:∀ {α:Type} (l:List α),(l.take off++([]:List α)++l.drop (off+0))=l:=fun l=>by simp
 have TW:(fs.take k).flatten.length=k:=by
  have:=iL (α:=D) (sz:=1) (es:=fs.take k) (fun e he=>by
   have:=(tU (inj e) (by simp only[aC.aU,cB,List.mem_map];exact⟨e,List.mem_of_mem_take he,rfl⟩)).1
   rwa [dI]at this)
  rw[this,List.length_take];omega
 rcases fe with⟨xo,T7⟩|⟨l,E,jz,fK,EO,AF⟩
 ·
  have ni:es = []:=by
   have:=congrArg List.length xo;rw[sn]at this;exact List.length_eq_zero_iff.1 this
  subst ni;have R3:off+n=0:=by simpa using hle
  have Pv:k=0:=by omega
  have PL:off=0:=by omega
  subst Pv PL;have SX:n=0:=by omega
  subst SX;have ud:(([]:List (List D)).take 0++fs.take 0++([]:List (List D)).drop (0+0)) = []:=by simp
  rw[ud];have hr:(Builtin.copy_ #[t,u] ty #[.slice base 0 cap,a.eval y]).run P w = .ok (goInt 0) w:=by
   rw[GX];cases base<;>cases ay<;>simp[Builtin.copy_,run_underlying sw,Builtin.lenOf,Builtin.firstCells,sizeOf,typeInfo,kS,<- ea,qh,storeCells,loadCells,loadCellsFrom]
  have BD:Good cx r m L F (bE st (.obj id (.arr 1 (.dd [])))) a w:=by
   refine hg.zq (fun i=>?_);simp only[bE,cH];split
   ·rename_i e;rw[e,CN]
   ·rfl
  refine⟨goInt 0,w,_,by simp[execOp,resolve,invoke,builtin,xi,H5,hr],.inl rfl,L,F,?_,Tr.refl F w⟩;exact BD.a9 (v:=.d (.int .i64 ((0:Nat):Int))) hd rfl
 ·have kO:k=0\/(base=some ⟨L.ρ id,off,none⟩/\off+cap<=L.κ id):=by
   rcases hb with⟨h0,_⟩|⟨h0,h1⟩
   ·exact .inl (by omega)
   ·exact .inr ⟨by simpa using h0,by simpa using h1⟩
  rw[Nat.mul_one]at EO AF;rw[sn]at EO AF;have hr:=Fu (P:=P) (w:=w) (ty:=ty) (dT:=t) (sT:=u) sw kS (by rw[<- ea,qh]) (base:=base) (ay:=ay) (dLen:=n) (dCap:=cap) (sLen:=fs.length) (sCap:=Kk) (cs:=news.take k)
   (by rw[zM,tY]) (by
    rcases kx with h0|⟨b,o,e1,h1⟩
    ·left
     have:fs.length=0:=by rw[<- IU,h0];rfl
     have:k=0:=by omega
     rw[this];rfl
    ·exact .inr ⟨b,o,e1,fun j v hv=>h1 j v (by
      have CS:j<k:=by
       have:=(List.getElem?_eq_some_iff.1 hv).1;rw[zM]at this;exact this
      rwa [List.getElem?_take_of_lt CS]at hv)⟩)
   (g:=L.ρ id) (o:=off) (cur:=l) (t:=E) (by
    rcases kO with h0|h0
    ·left;rw[h0];rfl
    ·exact .inr h0.1) jz (by rw[zM];omega) (fun v hv=>h1 v (List.mem_of_mem_take hv))
  rw[<- GX]at hr;rw[zM]at hr;have hL:=Array.length_toList (xs:=l);have Jf:=fH (cs:=l.toList) (l:=news.take k) (off:=off) (by rw[zM];omega);rw[zM]at Jf;generalize sR:(l.toList.take off++news.take k++l.toList.drop (off+k)).toArray=c' at hr;have ce:c'.toList=l.toList.take off++news.take k++l.toList.drop (off+k):=by rw[<- sR]
  have vo:c'.size=l.size:=by rw[<- ce]at Jf;simpa using Jf
  have CM:Good cx r m L F (bE st (.obj id (.arr 1 (.dd (es.take off++fs.take k++es.drop (off+k)))))) a (w.setRow (L.ρ id) c')/\Tr F w F (w.setRow (L.ρ id) c'):=by
   by_cases hκ:L.κ id=0
   ·
    have SQ:l.size=0:=by rw[fK,hκ]
    have Sv:es = []:=List.length_eq_zero_iff.1 (by omega);subst Sv;have R3:off+n=0:=by simpa using hle
    have Pv:k=0:=by omega
    have PL:off=0:=by omega
    subst Pv PL;have ud:(([]:List (List D)).take 0++fs.take 0++([]:List (List D)).drop (0+0)) = []:=by simp
    rw[ud];have vn:c'=l:=by
     rw[<- sR];simp
    rw[vn,setRow_self w _ _ _ _ jz];refine⟨hg.zq (fun i=>?_),Tr.refl F w⟩;simp only[bE,cH];split
    ·rename_i e;rw[e,CN]
    ·rfl
   ·have tr:Tr F w F (w.setRow (L.ρ id) c'):=
     .gV rfl rfl rfl (by simp) (fun _=>Nat.le_refl _) hg.heap.fresh fun b _ hF=>setRow_other _ _ _ _ (by rintro rfl;have:=(hg.heap.own id _ CN hκ).1;omega)
    have HY:(es.take off++fs.take k++es.drop (off+k)).length=es.length:=by
     have:=fH (cs:=es) (l:=fs.take k) (off:=off) (by rw[List.length_take];omega);rw[List.length_take,Nat.min_eq_left EG]at this;exact this
    refine hg.obj (o:=.arr 1 (.dd (es.take off++fs.take k++es.drop (off+k)))) CN hκ (w':=w.setRow (L.ρ id) c') rfl rfl rfl (size_setRow _ _ _) (fun b hb=>setRow_other _ _ _ _ hb)
     (by rw[jz];intro ds e;cases e) (by rw[jz];intro lp e;cases e)
     ⟨Nat.one_pos,?_,.inr ⟨c',E,setRow_heap _ _ _ _ _ _ jz,by rw[vo,fK],?_,?_⟩⟩
    ·intro e he
     simp only[aC.aU,cB,List.mem_map,List.mem_append]at he;obtain⟨q,hq,rfl⟩:=he;rcases hq with(hq|hq)|hq
     ·exact fY _ (by simp only[aC.aU,cB,List.mem_map];exact⟨q,List.mem_of_mem_take hq,rfl⟩)
     ·exact(tU _ (by simp only[aC.aU,cB,List.mem_map];exact⟨q,List.mem_of_mem_take hq,rfl⟩)).1
     ·exact fY _ (by simp only[aC.aU,cB,List.mem_map];exact⟨q,List.mem_of_mem_drop hq,rfl⟩)
    ·simp only[aC.aU,cB,List.length_map,HY,Nat.mul_one,vo];omega
    ·have e0:(aC.dd (es.take off++fs.take k++es.drop (off+k))).aU.length*1=es.length:=by simp only[aC.aU,cB,List.length_map,HY,Nat.mul_one]
     rw[e0,ce];refine aq.mono tr _ _ (fun _ _=>⟨rfl,rfl⟩) ?_;have e1:(aC.dd (es.take off++fs.take k++es.drop (off+k))).aU.flatten=(aC.dd es).aU.flatten.take off++((aC.dd fs).aU.flatten.take k)++(aC.dd es).aU.flatten.drop (off+k):=by
      have h1:=fR (es:=(aC.dd es).aU) off fY;have h2:=fR (es:=(aC.dd fs).aU) k (fun e he=>(tU e he).1);have h3:=l6 (es:=(aC.dd es).aU) (off+k) fY;rw[Nat.mul_one]at h1 h2 h3;rw[<- h1,<- h2,<- h3];simp[aC.aU,cB,List.map_take,List.map_drop]
     rw[e1];have e2:((l.toList.take off++news.take k++l.toList.drop (off+k)).take es.length)=(l.toList.take es.length).take off++news.take k++(l.toList.take es.length).drop (off+(news.take k).length):=by
      have:=sb (l:=l.toList) (Y:=news.take k) (o:=off) (n:=es.length) (by rw[zM];omega) (by omega);rw[zM]at this ⊢;exact this
     rw[e2,zM];exact((AF.take off).append (FV.take k)).append (AF.drop (off+k))
  refine⟨goInt k,_,_,by simp[execOp,resolve,invoke,builtin,xi,H5,hr],.inl rfl,L,F,?_,CM.2⟩;exact CM.1.a9 (v:=.d (.int .i64 ((k:Nat):Int))) hd rfl
end
end Go.PX
