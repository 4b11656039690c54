import Derived.Test.YtmbefpmbnhdbpaaGreatDoorPxD
import Derived.Laws.MakeOwn
set_option linter.all false
namespace Go.PX
open Go.RowKit
section
variable {P : Program} {T : fA} {e : Env} {h : Heap} {dst : Option Nat} {K : List Wr -> Prop} {ty : TypeId} {pos : String} {after : Array Edge} {guard : Option (Nat × Bool)}
theorem KK(hT:bA P T){t:TypeId}{x:Operand}(hk:gW T e h dst (.range t x) K):∃ ws,K ws/\Out P e h ⟨dst,.range t x,ty,pos,after,guard⟩ ws:=by
 simp only[gW]at hk;split at hk;case h_3=>exact hk.elim
 case h_2=>
  rename_i ti id d ht hx;split at hk;case h_2=>exact hk.elim
  rename_i mk me cY e8 hid;obtain⟨er,hk⟩:=cr hk;have er:id≠d:=by rintro rfl;simp at er
  obtain⟨de,ib,fx⟩:=fK hT ht;rw[e8]at fx;have:=uE fx.symm;subst this;refine⟨_,hk,?_⟩;intro σ cx r m L F st a w he hh hg hd;have dV:a.eval x = .map (some (L.ρ id)):=hg.aR (aF he hx);obtain⟨en,c,hb,hr,sg⟩:=hg.heap.obj id _ (hh _ _ hid);have hl:c=cY.length:=by rw[sg.1];simpa using cf.get hr
  have tr:Tr F w F (w.alloc (.mapIter (some (L.ρ id)) c #[] c)):=Tr.alloc hg.heap.fresh _;have ux:=hg.new d 0 (.mit (.mp id) cY.length (List.range cY.length) none) (.mapIter (some (L.ρ id)) c #[] c) (hg.fN (hd d rfl))
   ⟨L.ρ id,#[],by show Value.map (some _) = .map (some _);simp[er],by show(w.alloc _).heap[if d=d then w.heap.size else L.ρ d]?=_;rw[if_pos rfl,heap_alloc_new w _,hl],(fun i=>by simp),fun i e=>by cases e⟩
  refine⟨.pointer (some ⟨w.heap.size,0,none⟩),_,_,?_,.inl rfl,_,F,ux.set (v:=.it d) (hd d rfl) (by show Value.pointer _=Value.pointer _;simp),tr⟩;simp[execOp,dV,Instr.range,run_underlying ib,getObj,Sem.run,hb]
 rename_i ti s d ht hx;split at hk;case h_2=>exact hk.elim
 rename_i e8;obtain⟨de,ib,fx⟩:=fK hT ht;rw[e8]at fx;have:=jQ fx.symm;subst this;refine⟨_,hk,?_⟩;intro σ cx r m L F st a w he hh hg hd;have dV:=mE hg he hx;have tr:Tr F w F (w.alloc (.stringIter s 0)):=Tr.alloc hg.heap.fresh _;have ux:=hg.new d 0 (.iter s 0) (.stringIter s 0) (hg.fN (hd d rfl)) (by show(w.alloc _).heap[if d=d then w.heap.size else L.ρ d]?=_;rw[if_pos rfl];exact heap_alloc_new w _);refine⟨.pointer (some ⟨w.heap.size,0,none⟩),_,_,?_,.inl rfl,_,F,ux.set (v:=.it d) (hd d rfl) (by show Value.pointer _=Value.pointer _;simp),tr⟩;simp[execOp,dV,Instr.range,run_underlying ib]
theorem Nh{σ:Type}{cx:Cx σ}{r:Option Nat}{m:List Nat}{L:Loc}{F:Nat->Nat}{st:St σ}{a:Act}{w:World}(hg:Good cx r m L F st a w){h:Heap}(hh:dR h st.heap){v:V}{cY:List (D×D)}(wU:PJ h v=some cY){rb:Nat}(hv:br cx.yv L F w v (.map (some rb))) :
  ∃ en c,w.heap[rb]?=some (.map en c)/\cf F w cY en.toList/\tM en c:=by
 unfold PJ at wU;split at wU;case h_2=>cases wU
 rename_i mm;split at wU;case h_2=>cases wU
 rename_i uH hmm;cases wU;have hv:Value.map (some rb) = .map (some (L.ρ mm)):=hv;simp only[Value.map.injEq,Option.some.injEq]at hv;rw[hv];exact hg.heap.obj mm _ (hh _ _ hmm)
theorem KH{x:Operand}(hk:gW T e h dst (.entry x) K):∃ ws,K ws/\Out P e h ⟨dst,.entry x,ty,pos,after,guard⟩ ws:=by
 simp only[gW]at hk;split at hk;case h_2=>exact hk.elim
 rename_i id hx;split at hk;case h_2=>exact hk.elim
 rename_i v n todo i hid;split at hk;case h_2=>exact hk.elim
 rename_i cY wU;obtain⟨hn,⟨k,u⟩,hi,hk⟩:=hk;refine⟨_,hk,bM (v:=.d (.tup [k,u])) (o:=⟨dst,.entry x,ty,pos,after,guard⟩) fun cx r m L F st a w he hh hg=>?_⟩;have dV:a.eval x = .pointer (some ⟨L.ρ id,0,none⟩):=hg.aR (aF he hx);obtain⟨rb,seen,hv,hb,_,aaJ⟩:=hg.heap.obj id _ (hh _ _ hid);obtain⟨en,c,hm,hr,sg⟩:=Nh hg hh wU hv;have ur:=aaJ i rfl;have pW:c=n:=by
  rw[sg.1,<- hn];simpa using cf.get hr
 have D3:i<en.size:=by
  have:=(List.getElem?_eq_some_iff.1 hi).1;have h2:=cf.get hr;simp at h2;omega
 obtain⟨k',u',YZ,sy,hur⟩:=cf.at hr (i:=i) (e:=en[i]) (by simp[D3]);rw[hi]at YZ;cases YZ;have MJ:en.find? (·.born ==i)=some en[i]:=by
  rw[Array.find?_eq_some_iff_getElem];have kC:=sg.2 i _ (Array.getElem?_eq_getElem D3);refine⟨by simp[kC],i,D3,rfl,fun j hj=>?_⟩;have:=sg.2 j _ (Array.getElem?_eq_getElem (by omega));simp[this];omega
 refine⟨.tuple #[en[i].key,en[i].val],?_,⟨_,rfl,_,_,rfl,sy,_,_,rfl,hur,rfl⟩⟩;simp[execOp,dV,Instr.entry,getObj,Sem.run,Sem.run_bind,hb,ur,hm,pW,MJ]
theorem NH{x:Operand}{b:Bool}(hk:gW T e h dst (.next x b) K):∃ ws,K ws/\Out P e h ⟨dst,.next x b,ty,pos,after,guard⟩ ws:=by
 simp only[gW]at hk;split at hk;case h_2=>exact hk.elim
 rename_i id hx;split at hk;case h_2=>exact hk.elim
 rename_i s p hs;rcases tU hk with⟨hb,⟨hk⟩⟩|⟨hb,hk⟩
 ·have hb:=of_decide_eq_true hb
  refine⟨_,hk,?_⟩;intro σ cx r m L F st a w he hh hg hd;have dV:a.eval x = .pointer (some ⟨L.ρ id,0,none⟩):=hg.aR (aF he hx);have h0:=hh _ _ hs;have kC:w.heap[L.ρ id]?=some (.stringIter s p):=hg.heap.obj id _ h0;have dh:=(Array.getElem?_eq_some_iff.1 kC).1;obtain⟨g1,g2⟩:=hg.obj (o:=.iter s (p+(Utf8.decode s p).2)) h0 trivial (w':={ w with heap:=w.heap.setIfInBounds (L.ρ id) (.stringIter s (p+(Utf8.decode s p).2)) }) rfl rfl rfl (by simp) (fun y hy=>by simp[Array.getElem?_setIfInBounds_ne (Ne.symm hy)])
   (by rw[kC];intro ds e;cases e) (by rw[kC];intro lp e;cases e) (by show _=_;simp[Array.getElem?_setIfInBounds,dh])
  refine⟨.tuple #[.bool true,.int .i64 p,.int .i32 (Utf8.decode s p).1],_,_,?_,.inl rfl,L,F,?_,g2⟩
  ·simp only[execOp,dV,Instr.next,getObj,setObj,Sem.run_bind,Sem.run,kC,Result.andThen]
   simp[hb,Sem.run,kC,goInt]
  ·cases dst with
   | none=>exact g1
   | some d=>exact g1.set (hd d rfl) ⟨_,rfl,⟨_,_,rfl,rfl,_,_,rfl,rfl,_,_,rfl,rfl,rfl⟩⟩
 ·have hb:=of_decide_eq_false hb
  refine⟨_,hk,bM (o:=⟨dst,.next x true,ty,pos,after,guard⟩) fun cx r m L F st a w he hh hg=>?_⟩;have dV:a.eval x = .pointer (some ⟨L.ρ id,0,none⟩):=hg.aR (aF he hx);have kC:w.heap[L.ρ id]?=some (.stringIter s p):=hg.heap.obj id _ (hh _ _ hs);refine⟨_,?_,⟨_,rfl,⟨_,_,rfl,rfl,rfl⟩⟩⟩;simp only[execOp,dV,Instr.next,getObj,Sem.run_bind,Sem.run,kC,Result.andThen];simp[hb,Sem.run]
theorem FD{t:TypeId}{x:Option Operand}(hk:gW T e h dst (.makeMap t x) K):∃ ws,K ws/\Out P e h ⟨dst,.makeMap t x,ty,pos,after,guard⟩ ws:=by
 simp only[gW]at hk;split at hk;case h_2=>exact hk.elim
 rename_i d;refine⟨_,hk,?_⟩;intro σ cx r m L F st a w he hh hg hd;have tr:Tr F w F (w.alloc (.map #[] 0)):=Tr.alloc hg.heap.fresh _;have ux:=hg.new d 0 (.map []) (.map #[] 0) (hg.fN (hd d rfl)) ⟨#[],0,by show(w.alloc _).heap[if d=d then w.heap.size else L.ρ d]?=_;rw[if_pos rfl];exact heap_alloc_new w _,rfl,rfl,by intro i e h;simp at h⟩;refine⟨.map (some w.heap.size),_,_,?_,.inl rfl,_,F,ux.set (v:=.mp d) (hd d rfl) (by show Value.map _=Value.map _;simp),tr⟩;simp[execOp,Instr.makeMap]
inductive QH(P:Program)(T:fA)(kt:TypeId)(k:D):Prop where
 | plain (dk:TypeDesc) (hk:P.underlying kt=some dk) (C2:(∃ k,dk = .int k)\/dk = .string\/dk = .bool) (xX:uG T kt (kp dk) k=true)
 | wide (dk:TypeDesc) (cs:List D) (n:Nat) (hk:P.underlying kt=some dk) (nV:∃ ti,T.get kt=some ti/\ti.isAgg=true) (C2:∀ x y,Instr.sameNow dk x y=none) (hc:k = .agg cs) (hf:flat T 9 kt=some n) (hl:cs.length=n) (hi:sf T 9 kt cs=true)
theorem yb(hT:bA P T){t kt:TypeId}{ki ei:sO}(h:mapOf T t=some (kt,(ki,ei))):∃ el,P.underlying t=some (.map kt el)/\T.get kt=some ki/\T.get el=some ei:=by
 unfold mapOf at h;split at h;case h_2=>cases h
 rename_i ti ht;split at h;case h_2=>cases h
 rename_i kt el e8;obtain⟨de,ib,fx⟩:=fK hT ht;rw[e8]at fx;have:=uE fx.symm;subst this;split at h;case h_2=>cases h
 rename_i ki' ei' J2 kD;cases h;exact⟨el,ib,J2,kD⟩
theorem Dh(hT:bA P T){kt:TypeId}{ki:sO}(J2:T.get kt=some ki){k:D}(h:uG T kt ki.kd k=true):QH P T kt k:=by
 obtain⟨i,dk,hi,C2,_,_,j8,nV,_⟩:=hT kt ki J2
 cases e8:ki.kd with
 | int q=>
  have:=oz (j8.symm.trans e8);subst this;exact .plain _ C2 (.inl ⟨_,rfl⟩) (by rw[e8]at h;exact h)
 | str=>
  have:=jQ (j8.symm.trans e8);subst this;exact .plain _ C2 (.inr (.inl rfl)) (by rw[e8]at h;exact h)
 | bool=>
  have:=rV (j8.symm.trans e8);subst this;exact .plain _ C2 (.inr (.inr rfl)) (by rw[e8]at h;exact h)
 | struct fs=>
  rw[e8]at h;obtain⟨fa,rfl,_⟩:=jw (j8.symm.trans e8);cases k<;>simp only[uG]at h<;>try (cases h;done)
  split at h;case h_2=>cases h
  rename_i n hn;simp only[Bool.and_eq_true]at h;exact .wide _ _ n C2 ⟨ki,J2,nV⟩ (fun x y=>by cases x<;>cases y<;>rfl) rfl hn (eM h.1) h.2
 | array m e=>
  rw[e8]at h;have:=gA (j8.symm.trans e8);subst this;cases k<;>simp only[uG]at h<;>try (cases h;done)
  split at h;case h_2=>cases h
  rename_i n hn;simp only[Bool.and_eq_true]at h;exact .wide _ _ n C2 ⟨ki,J2,nV⟩ (fun x y=>by cases x<;>cases y<;>rfl) rfl hn (eM h.1) h.2
 | _=>rw[e8]at h;cases k<;>simp only[uG]at h<;>cases h
theorem LM(a b:ByteArray):(a ==b)=decide (a=b):=by
 have h:(a ==b)=(a.data ==b.data):=by cases a;cases b;rfl
 rw[h];by_cases DZ:a=b
 ·subst DZ;simp
 ·have:a.data≠b.data:=fun e=>DZ (by cases a;cases b;simp only at e;rw[e])
  simp[DZ,this]
theorem Qs{F:Nat->Nat}{w:World}{kt:TypeId}{dk:TypeDesc}(C2:(∃ k,dk = .int k)\/dk = .string\/dk = .bool){k:D}{x:Value}(hx:bR F w k x)(xX:uG T kt (kp dk) k=true)(k':D)(y:Value)(r:Bool)(h:fC k k'=some r)(hy:bR F w k' y):Instr.sameNow dk x y=some r:=by
 cases k<;>cases k'<;>simp only[fC]at h<;>try (cases h;done)
 ·cases hx;cases hy
  cases h;rcases C2 with⟨_,rfl⟩|rfl|rfl<;>simp[uG,kp]at xX
  rfl
 ·cases hx;cases hy
  rename_i k1 a k2 b;split at h
  ·rename_i he
   have he:=of_decide_eq_true he;cases h;rcases C2 with⟨_,rfl⟩|rfl|rfl<;>simp[uG,kp]at xX
   simp[Instr.sameNow,he];rfl
  ·cases h
 ·cases hx;cases hy
  cases h;rcases C2 with⟨_,rfl⟩|rfl|rfl<;>simp[uG,kp]at xX
  show some (_ ==_)=_;rename_i a b
  congr 1
  exact LM _ _
 ·rcases C2 with⟨_,rfl⟩|rfl|rfl<;>simp[uG,kp]at xX
def Found(F:Nat->Nat)(w:World)(k:D)(es:List MapEntry)(n:Nat)(r:Option (Nat×D))(q:Option (Nat×Value)):Prop:=
 match r,q with
 | none,none=>True
 | some (i,v),some (j,u)=>i=j/\bR F w v u/\n<=i/\i<n+es.length /\ ∃ en,es[i-n]?=some en /\ ∃ kk,bR F w kk en.key/\fC k kk=some true
 | _,_=>False
theorem Bx{F:Nat->Nat}{w:World}{kd:TypeDesc}{k:D}{x:Value}(hx:bR F w k x)(ow:∀ (k':D) (y:Value) (r:Bool),fC k k'=some r->bR F w k' y->Instr.sameNow kd x y=some r) :
  ∀ {cY:List (D×D)} {es:List MapEntry} {n:Nat} {r:Option (Nat×D)},findD k cY n=some r->cf F w cY es ->
   ∃ q,Instr.findNow kd x es n=some q/\Found F w k es n r q
 | [],es,n,r,h,hr=>by
  have hr:es = []:=hr;subst hr;simp only[findD,Option.some.injEq]at h;subst h;exact⟨none,rfl,trivial⟩
 | (k',v)::kr,es,n,r,h,hr=>by
  obtain⟨en,es',rfl,hk,hv,hr⟩:=hr;simp only[findD]at h;split at h
  ·rename_i hs
   cases h;refine⟨some (n,en.val),?_,rfl,hv,Nat.le_refl _,by simp,en,by simp,k',hk,hs⟩;simp only[Instr.findNow,ow k' en.key true hs hk]
  ·rename_i hs
   obtain⟨q,h1,h2⟩:=Bx hx ow h hr;refine⟨q,?_,?_⟩
   ·simp only[Instr.findNow,ow k' en.key false hs hk];exact h1
   ·match r,q,h2 with
    | none,none,_=>trivial
    | some (i,v),some (j,u),⟨p1,p2,p3,p4,en',p5,p6⟩=>
     refine⟨p1,p2,by omega,by simp;omega,en',?_,p6⟩;have:i-n=(i-(n+1))+1:=by omega
     rw[this,List.getElem?_cons_succ];exact p5
  ·cases h
theorem Bv{F:Nat->Nat}{w:World}{kt:TypeId}{k:D}{x:Value}(hx:bR F w k x)(ow:∀ (k':D) (y:Value) (r:Bool),fC k k'=some r->bR F w k' y->(Op.equal kt x y).run P w = .ok r w) :
  ∀ {cY:List (D×D)} {es:List MapEntry} {n:Nat} {r:Option (Nat×D)},findD k cY n=some r->cf F w cY es ->
   ∃ q,(Instr.findAsking kt x es n).run P w = .ok q w/\Found F w k es n r q
 | [],es,n,r,h,hr=>by
  have hr:es = []:=hr;subst hr;simp only[findD,Option.some.injEq]at h;subst h;exact⟨none,by simp[Instr.findAsking],trivial⟩
 | (k',v)::kr,es,n,r,h,hr=>by
  obtain⟨en,es',rfl,hk,hv,hr⟩:=hr;simp only[findD]at h;split at h
  ·rename_i hs
   cases h;refine⟨some (n,en.val),?_,rfl,hv,Nat.le_refl _,by simp,en,by simp,k',hk,hs⟩;simp[Instr.findAsking,ow k' en.key true hs hk]
  ·rename_i hs
   obtain⟨q,h1,h2⟩:=Bv hx ow h hr;refine⟨q,?_,?_⟩
   ·simp[Instr.findAsking,ow k' en.key false hs hk,h1]
   ·match r,q,h2 with
    | none,none,_=>trivial
    | some (i,v),some (j,u),⟨p1,p2,p3,p4,en',p5,p6⟩=>
     refine⟨p1,p2,by omega,by simp;omega,en',?_,p6⟩;have:i-n=(i-(n+1))+1:=by omega
     rw[this,List.getElem?_cons_succ];exact p5
  ·cases h
theorem wb:∀ {a b c d:List D},dx a b=some true->dx c d=some true->dx (a++c) (b++d)=some true
 | [],[],_,_,_,h=>h
 | [],_::_,_,_,h,_=>by simp[dx]at h
 | _::_,[],_,_,h,_=>by simp[dx]at h
 | x::a,y::b,c,d,h,k=>by
  simp only[dx]at h;split at h;case h_2=>cases h
  rename_i p q hp hq;simp only[Option.some.injEq,Bool.and_eq_true]at h;obtain⟨rfl,rfl⟩:=h;simp[dx,hp,wb hq k]
theorem BC{T:fA}:∀ (d:Nat) (t:TypeId) (n:Nat),flat T d t=some n -> ∃ ti,T.get t=some ti/\ti.size=n
 | 0,_,_,h=>by simp[flat]at h
 | d+1,t,n,h=>by
  simp only[flat]at h;split at h
  ·cases h
  rename_i ti iC;refine⟨ti,iC,?_⟩;split at h
  ·split at h
   ·rename_i hs;cases h;exact Nat.eq_of_beq_eq_true hs
   ·cases h
  ·split at h
   ·rename_i hs;cases h;exact Nat.eq_of_beq_eq_true hs
   ·cases h
  ·split at h
   ·rename_i hs;cases h;exact Nat.eq_of_beq_eq_true hs
   ·cases h
  ·split at h
   ·split at h
    ·rename_i hs;cases h;exact Nat.eq_of_beq_eq_true hs
    ·cases h
   ·cases h
  ·split at h
   ·split at h
    ·rename_i hs;cases h;exact Nat.eq_of_beq_eq_true hs
    ·cases h
   ·cases h
  ·cases h
theorem yR{T:fA}{f:TypeId->Option Nat}{g:TypeId->List D->Bool}(hf:∀ t c xs,f t=some c->(∃ ti,T.get t=some ti/\ti.size=c)/\(xs.length=c->g t xs=true->dx xs xs=some true)):∀ (fs:List (Nat×TypeId)) (n m:Nat) (xs:List D),qz f fs n=some m->xs.length=m->BA T g fs xs=true->n<=m/\dx (xs.drop n) (xs.drop n)=some true
 | [],n,m,xs,h,hl,_=>by
  simp only[qz,Option.some.injEq]at h;subst h;rw[List.drop_eq_nil_of_le (by omega)];exact⟨Nat.le_refl _,rfl⟩
 | (off,t)::r,n,m,xs,h,hl,hk=>by
  simp only[qz]at h;split at h;case h_2=>cases h
  rename_i c qJ hc;have qJ:=Nat.eq_of_beq_eq_true qJ;subst qJ;obtain⟨⟨ti,iC,dD⟩,_⟩:=hf t (c+1) xs hc;simp only[BA,iC]at hk;split at hk;case h_2=>cases hk
  rename_i fx;obtain⟨h1,h2⟩:=yR hf r _ m xs h hl hk;rw[dD]at fx;have h3:=(hf t (c+1) ((xs.drop off).take (c+1)) hc).2 (by simp;omega) fx;refine⟨by omega,?_⟩;have h4:=wb h3 h2
  rwa [<- List.drop_drop,List.take_append_drop]at h4
theorem yS{g:List D->Bool}{c:Nat}(hg:∀ xs:List D,xs.length=c->g xs=true->dx xs xs=some true):∀ (n:Nat) (xs:List D),xs.length=n*c->BB g c n xs=true->dx xs xs=some true
 | 0,xs,hl,_=>by
  have:xs = []:=List.length_eq_zero_iff.1 (by simpa using hl);subst this;rfl
 | n+1,xs,hl,hk=>by
  rw[Nat.succ_mul]at hl;simp only[BB]at hk;split at hk;case h_2=>cases hk
  rename_i fx;have h1:=hg (xs.take c) (by simp;omega) fx;have h2:=yS hg n (xs.drop c) (by simp;omega) hk;have h3:=wb h1 h2
  rwa [List.take_append_drop]at h3
theorem yT{T:fA}:∀ (d:Nat) (t:TypeId) (xs:List D) (n:Nat),flat T d t=some n->xs.length=n->sf T d t xs=true->dx xs xs=some true
 | 0,_,_,_,h,_,_=>by simp[flat]at h
 | d+1,t,xs,n,h,hl,hk=>by
  simp only[flat]at h;split at h
  ·cases h
  rename_i ti iC;simp only[sf,iC]at hk;split at h
  ·rename_i e8
   simp only[e8]at hk;split at hk
   ·simp[dx,kV]
   ·cases hk
  ·rename_i e8
   simp only[e8]at hk;split at hk
   ·simp[dx,kV]
   ·cases hk
  ·rename_i e8
   simp only[e8]at hk;split at hk
   ·simp[dx,kV,u1]
   ·cases hk
  ·rename_i fs e8
   simp only[e8]at hk;split at h;case h_2=>cases h
   rename_i m _ hm;split at h;case h_2=>cases h
   cases h;have:=(yR (T:=T) (f:=fun t=>flat T d t) (g:=fun t xs=>sf T d t xs) (fun t c xs hc=>⟨BC d t c hc,fun hl hk=>yT d t xs c hc hl hk⟩) fs 0 _ xs hm hl hk).2;simpa using this
  ·rename_i m e e8
   simp only[e8]at hk;split at h;case h_2=>cases h
   rename_i c hc;split at h;case h_2=>cases h
   cases h;obtain⟨ei,kD,fP⟩:=BC d e (c+1) hc;simp only[kD,fP]at hk;exact yS (fun xs hl hk=>yT d e xs _ hc hl hk) m xs hl hk
  ·cases h
theorem nM(hT:bA P T){F:Nat->Nat}{w:World}{kt:TypeId}{k:D}{x:Value}(ho:QH P T kt k)(hx:bR F w k x){cY:List (D×D)}{es:List MapEntry}{r:Option (Nat×D)}(hf:findD k cY 0=some r)(hr:cf F w cY es) :
  (∀ b,(Instr.checkKey b 10000 kt x).run P w = .ok () w) /\ ∃ q,(Instr.findKey kt x es).run P w = .ok q w/\Found F w k es 0 r q:=by
 cases ho with
 | plain dk hk C2 xX=>
  obtain⟨q,hq,hm⟩:=Bx hx (Qs C2 hx xX) hf hr;refine⟨fun b=>?_,q,by simp[Instr.findKey,run_underlying hk,hq],hm⟩;rw[show(10000:Nat)=9999+1 from rfl];unfold Instr.checkKey;rcases C2 with⟨k,rfl⟩|rfl|rfl<;>simp[run_underlying hk]
 | wide dk cs n hk nV C2 hc IT hl hi=>
  subst hc;obtain⟨lx,rfl,tK⟩:=hx;obtain⟨ti,iC,nV⟩:=nV;have uA:∀ (zs:List D) (l:Array Value),bt F w zs l.toList->qk T F w kt zs (.agg l):=fun zs l hl ti' zk=>by
   rw[iC]at zk;cases zk;rw[nV];exact⟨l,rfl,hl⟩
  have ns:∀ N,9<=N->CA P T F w N 9 kt n:=fun N hN=>sX hT 9 kt n IT N hN;refine⟨fun b=>((ns 10000 (by decide)).2 cs cs true hl hi (yT 9 kt cs n IT hl hi) _ _ (uA _ _ tK) (uA _ _ tK)).2 b,?_⟩;have ow:∀ (k':D) (y:Value) (r:Bool),fC (.agg cs) k'=some r->bR F w k' y->(Op.equal kt (.agg lx) y).run P w = .ok r w:=by
   intro k' y r hs hy;cases k'<;>simp only[fC]at hs<;>try (cases hs;done)
   obtain⟨ly,rfl,vG⟩:=hy;exact((ns Op.maxDepth (by decide)).2 cs _ r hl hi hs _ _ (uA _ _ tK) (uA _ _ vG)).1
  obtain⟨q,hq,hm⟩:=Bv (P:=P) (kt:=kt) (k:=.agg cs) (x:=.agg lx) ⟨lx,rfl,tK⟩ ow hf hr
  cases fP:es with
  | nil=>
   subst fP;have:cY = []:=by
    cases cY with
    | nil=>rfl
    | cons p r=>obtain⟨_,_,h,_⟩:=hr;cases h
   subst this;simp only[findD,Option.some.injEq]at hf;subst hf;exact⟨none,by simp[Instr.findKey,run_underlying hk,Instr.findNow],trivial⟩
  | cons en es'=>
   rw[<- fP];refine⟨q,?_,hm⟩;have:Instr.findNow dk (.agg lx) es 0=none:=by rw[fP];simp[Instr.findNow,C2]
   simp[Instr.findKey,run_underlying hk,this,hq]
theorem yj{F:Nat->Nat}{w:World}(hT:bA P T){el:TypeId}{ei:sO}(kD:T.get el=some ei){z:D}(hz:Cu ei=some z):∃ zv,(zeroValue el).run P w = .ok zv w/\bR F w z zv:=by
 obtain⟨i,d,hi,hd,_,_,_,_,_,Hk⟩:=hT el ei kD;unfold Cu at hz;split at hz
 ·rename_i l hl ha
  cases hz;obtain⟨zv,Ki,A5,nV⟩:=Hk _ hl;refine⟨zv,by simp[zeroValue,typeInfo,hi,Ki],?_⟩;rw[ha]at nV;unfold zeroCells at A5;unfold Jx at nV;split at nV
  ·rename_i l' ho
   rw[ho]at A5;cases A5;exact oU ho
  ·cases nV
 ·rename_i l hl ha
  cases hz;obtain⟨zv,Ki,A5,nV⟩:=Hk _ hl;refine⟨zv,by simp[zeroValue,typeInfo,hi,Ki],?_⟩;rw[ha]at nV;unfold zeroCells at A5;unfold Jx at nV;split at A5
  ·rename_i l' ho;rw[ho]at nV;cases nV
  ·cases A5
  ·rename_i v _ _ ho
   cases A5;exact oU ho
  ·cases A5
 ·cases hz
theorem Ae{d:TypeDesc}(h:DA (kp d)=true):∀ ms,d ≠ .interface ms:=by
 rintro ms rfl;cases h
theorem uX(hT:bA P T){t:TypeId}{x:Operand}(hk:gW T e h dst (.makeInterface t x) K):∃ ws,K ws/\Out P e h ⟨dst,.makeInterface t x,ty,pos,after,guard⟩ ws:=by
 simp only[gW]at hk;split at hk;case h_2=>exact hk.elim
 rename_i ti v ht hx;obtain⟨hp,hk⟩:=cr hk;obtain⟨de,ib,fx⟩:=fK hT ht;rw[fx]at hp;have Oz:=Ae hp;refine⟨_,hk,bM (v:=.d (.ifc t v)) (o:=⟨dst,.makeInterface t x,ty,pos,after,guard⟩) fun cx r m L F st a w he hh hg=>⟨.iface t (a.eval x),?_,⟨_,rfl,hg.aR (aF he hx)⟩⟩⟩;cases de<;>first|exact absurd rfl (Oz _)|simp[execOp,Instr.makeInterface,run_underlying ib]
theorem vO{yv:Option Nat}{L:Loc}{F:Nat->Nat}{w:World}{c b:Bool}{v:D}{x:Value}(h:bR F w v x):br yv L F w (sC c v b) (if c=true then .tuple #[x,.bool b] else x):=by
 cases c
 ·exact h
 ·exact⟨_,rfl,_,_,rfl,h,_,_,rfl,rfl,rfl⟩
theorem z8(hT:bA P T){x:Operand}{xt at':TypeId}{c:Bool}(hk:gW T e h dst (.typeAssert x xt at' c) K):∃ ws,K ws/\Out P e h ⟨dst,.typeAssert x xt at' c,ty,pos,after,guard⟩ ws:=by
 simp only[gW]at hk;split at hk;case h_3=>exact hk.elim
 ·rename_i ti t v ht hx
  obtain⟨hp,j8⟩:=cr hk;clear hk;obtain⟨de,ib,fx⟩:=fK hT ht;rw[fx]at hp;have Oz:=Ae hp;split at j8
  ·rename_i rR
   have:=Nat.eq_of_beq_eq_true rR;subst this;refine⟨_,j8,bM (v:=sC c v true) (o:=⟨dst,.typeAssert x xt t c,ty,pos,after,guard⟩) fun cx r m L F st a w he hh hg=>?_⟩;obtain⟨y,hy,hr⟩:=hg.aR (aF he hx);refine⟨if c=true then .tuple #[y,.bool true] else y,?_,vO hr⟩;cases de<;>first|exact absurd rfl (Oz _)|simp[execOp,Instr.typeAssert,run_underlying ib,hy]
  ·rename_i rR
   have er:t≠at':=by rintro rfl;simp at rR
   split at j8;case h_2=>exact j8.elim
   rename_i _ _ z hz;refine⟨_,j8,bM (v:=sC true z false) (o:=⟨dst,.typeAssert x xt at' true,ty,pos,after,guard⟩) fun cx r m L F st a w he hh hg=>?_⟩;obtain⟨y,hy,hr⟩:=hg.aR (aF he hx);obtain⟨zv,I0,Rt⟩:=yj (F:=F) (w:=w) hT ht hz;refine⟨.tuple #[zv,.bool false],?_,vO (c:=true) Rt⟩;cases de<;>first|exact absurd rfl (Oz _)|simp[execOp,Instr.typeAssert,run_underlying ib,hy,er,I0]
 ·rename_i ti ht hx
  obtain⟨hp,j8⟩:=cr hk;clear hk;obtain⟨de,ib,fx⟩:=fK hT ht;rw[fx]at hp;have Oz:=Ae hp;split at j8;case h_2=>exact j8.elim
  rename_i _ _ z hz;refine⟨_,j8,bM (v:=sC true z false) (o:=⟨dst,.typeAssert x xt at' true,ty,pos,after,guard⟩) fun cx r m L F st a w he hh hg=>?_⟩;have hy:a.eval x = .nilIface:=hg.aR (aF he hx);obtain⟨zv,I0,Rt⟩:=yj (F:=F) (w:=w) hT ht hz;refine⟨.tuple #[zv,.bool false],?_,vO (c:=true) Rt⟩;cases de<;>first|exact absurd rfl (Oz _)|simp[execOp,Instr.typeAssert,run_underlying ib,hy,I0]
theorem HF(hT:bA P T){t:TypeId}{x i:Operand}{c:Bool}(hk:gW T e h dst (.lookup t x i c) K):∃ ws,K ws/\Out P e h ⟨dst,.lookup t x i c,ty,pos,after,guard⟩ ws:=by
 simp only[gW]at hk;split at hk;case h_2=>exact hk.elim
 rename_i kt ki ei cY k hm wU hi;obtain⟨Ph,⟨r,hf,hk⟩⟩:=cr hk;obtain⟨el,h1,h3,h5⟩:=yb hT hm;have MO:=Dh hT h3 Ph;have qa:∀ {σ:Type} (cx:Cx σ) (r:Option Nat) (m:List Nat) (L:Loc) (F:Nat->Nat) (st:St σ) (a:Act) (w:World),dR e st.env->dR h st.heap->Good cx r m L F st a w ->
   ∃ es:List MapEntry,cf F w cY es/\((a.eval x = .map none/\es = []) \/ ∃ b en cl,a.eval x = .map (some b)/\w.heap[b]?=some (.map en cl)/\en.toList=es):=by
  intro σ cx r m L F st a w he hh hg;unfold Rv at wU;split at wU
  ·rename_i uH hx
   cases wU;obtain⟨b,en,cl,dV,hF,hb,hr⟩:=hg.aR (aF he hx);exact⟨en.toList,hr,.inr ⟨b,en,cl,dV,hb,rfl⟩⟩
  ·rename_i hx
   cases wU;exact⟨[],rfl,.inl ⟨hg.aR (aF he hx),rfl⟩⟩
  ·rename_i id hx
   split at wU;case h_2=>cases wU
   rename_i uH ho;cases wU;obtain⟨en,cl,hb,hr,_⟩:=hg.heap.obj id _ (hh _ _ ho);exact⟨en.toList,hr,.inr ⟨_,en,cl,hg.aR (aF he hx),hb,rfl⟩⟩
  ·cases wU
 have bZ:∀ {a:Act} {w:World} {es:List MapEntry} {q:Option (Nat×Value)},(∀ b,(Instr.checkKey b 10000 kt (a.eval i)).run P w = .ok () w)->(Instr.findKey kt (a.eval i) es).run P w = .ok q w->((a.eval x = .map none/\es = []) \/ ∃ b en cl,a.eval x = .map (some b)/\w.heap[b]?=some (.map en cl)/\en.toList=es) ->
   ∀ v ok,((∃ n,q=some (n,v))/\ok=true)\/(q=none/\ok=false/\(zeroValue el).run P w = .ok v w)->(Instr.lookup t (a.eval x) (a.eval i) c).run P w = .ok (if c then .tuple #[v,.bool ok] else v) w:=by
  intro a w es q ns hq hx v ok hv;rcases hx with⟨hx,rfl⟩|⟨b,en,cl,hx,hb,rfl⟩
  ·have Uv:(Instr.findKey kt (a.eval i) (#[]:Array MapEntry).toList).run P w = .ok q w:=hq
   rcases hv with⟨⟨n,rfl⟩,rfl⟩|⟨rfl,rfl,hz⟩
   ·simp[Instr.lookup,run_underlying h1,hx,ns,Uv]
   ·simp[Instr.lookup,run_underlying h1,hx,ns,Uv,hz]
  ·rcases hv with⟨⟨n,rfl⟩,rfl⟩|⟨rfl,rfl,hz⟩
   ·simp[Instr.lookup,run_underlying h1,hx,ns,hq,getObj,Sem.run,hb]
   ·simp[Instr.lookup,run_underlying h1,hx,ns,hq,getObj,Sem.run,hb,hz]
 have Re:∀ {F:Nat->Nat} {w:World} {yv:Option Nat} {L:Loc} {v:D} {u:Value} {ok:Bool},bR F w v u->br yv L F w (sC c v ok) (if c then .tuple #[u,.bool ok] else u):=by
  intro F w yv L v u ok hv;cases c
  ·exact hv
  ·exact⟨_,rfl,_,_,rfl,hv,_,_,rfl,rfl,rfl⟩
 cases r with
 | some nv=>
  obtain⟨n,v⟩:=nv;refine⟨_,hk,bM (o:=⟨dst,.lookup t x i c,ty,pos,after,guard⟩) fun cx r m L F st a w he hh hg=>?_⟩;obtain⟨es,hr,hx⟩:=qa cx r m L F st a w he hh hg;have sy:bR F w k (a.eval i):=hg.aR (aF he hi);obtain⟨ns,q,hq,hm⟩:=nM hT MO sy hf hr
  cases q with
  | none=>exact hm.elim
  | some ju=>
   obtain⟨j,u⟩:=ju;obtain⟨rfl,hv,_⟩:=hm;exact⟨_,by simp[execOp,bZ ns hq hx u true (.inl ⟨⟨n,rfl⟩,rfl⟩)],Re hv⟩
 | none=>
  simp only at hk;split at hk;case h_2=>exact hk.elim
  rename_i z hz;refine⟨_,hk,bM (o:=⟨dst,.lookup t x i c,ty,pos,after,guard⟩) fun cx r m L F st a w he hh hg=>?_⟩;obtain⟨es,hr,hx⟩:=qa cx r m L F st a w he hh hg;have sy:bR F w k (a.eval i):=hg.aR (aF he hi);obtain⟨ns,q,hq,hm⟩:=nM hT MO sy hf hr
  cases q with
  | some ju=>exact hm.elim
  | none=>
   obtain⟨zv,I0,Rt⟩:=yj (F:=F) (w:=w) hT h5 hz;exact⟨_,by simp[execOp,bZ ns hq hx zv false (.inr ⟨rfl,rfl,I0⟩)],Re Rt⟩
theorem cf.set{F:Nat->Nat}{w:World}{k v:D}{x y:Value}(hk:bR F w k x)(hv:bR F w v y):∀ {cY:List (D×D)} {es:List MapEntry} (n:Nat),cf F w cY es->cf F w (cY.set n (k,v)) (es.modify n fun e=>{ e with key:=x,val:=y })
 | [],es,n,h=>by rw[show es = [] from h];cases n<;>rfl
 | (k',v')::r,es,0,h=>by
  obtain⟨en,es',rfl,_,_,hr⟩:=h;exact⟨{ en with key:=x,val:=y },es',by simp,hk,hv,hr⟩
 | (k',v')::r,es,n+1,h=>by
  obtain⟨en,es',rfl,h1,h2,hr⟩:=h;exact⟨en,es'.modify n fun e=>{ e with key:=x,val:=y },by simp,h1,h2,cf.set hk hv n hr⟩
theorem cf.push{F:Nat->Nat}{w:World}{k v:D}{x y:Value}{b:Nat}(hk:bR F w k x)(hv:bR F w v y):∀ {cY:List (D×D)} {es:List MapEntry},cf F w cY es->cf F w (cY ++ [(k,v)]) (es ++ [{ key:=x,val:=y,born:=b }])
 | [],es,h=>by rw[show es = [] from h];exact⟨_,[],rfl,hk,hv,rfl⟩
 | (k',v')::r,es,h=>by
  obtain⟨en,es',rfl,h1,h2,hr⟩:=h;exact⟨en,es' ++ [{ key:=x,val:=y,born:=b }],by simp,h1,h2,cf.push hk hv hr⟩
theorem HU{F:Nat->Nat}{w:World}{n:Nat}{a:D}{x y:Value}(h:kV a a=some true)(hx:bR F w a x)(hy:bR F w a y):x=y/\Instr.sameBits (n+1) x y=true:=by
 cases a<;>simp only[kV]at h<;>try (cases h;done)
 ·cases hx;cases hy;exact⟨rfl,by simp[Instr.sameBits]⟩
 ·cases hx;cases hy;exact⟨rfl,by simp[Instr.sameBits]⟩
 ·rename_i t v
  obtain⟨x1,rfl,h1⟩:=hx;obtain⟨y1,rfl,h2⟩:=hy;cases v<;>simp[u1]at h
  cases h1;cases h2
  exact⟨rfl,by cases n<;>simp[Instr.sameBits]⟩
theorem Bm{F:Nat->Nat}{w:World}{n:Nat}:∀ {cs:List D} {l m:List Value},dx cs cs=some true->bt F w cs l->bt F w cs m->l=m/\(l.zip m).all (fun(x,y)=>Instr.sameBits (n+1) x y)=true
 | [],l,m,_,hl,hm=>by
  have hl:l = []:=hl;have hm:m = []:=hm;subst hl hm;exact⟨rfl,rfl⟩
 | c::cs,l,m,hi,hl,hm=>by
  obtain⟨x,l',rfl,hx,hl⟩:=hl;obtain⟨y,m',rfl,hy,hm⟩:=hm;simp only[dx]at hi;split at hi;case h_2=>cases hi
  rename_i p q hp hq;simp only[Option.some.injEq,Bool.and_eq_true]at hi;obtain⟨rfl,rfl⟩:=hi;obtain⟨h1,h2⟩:=Bm (n:=n) (cs:=cs) hq hl hm;obtain⟨h3,h4⟩:=HU (n:=n) hp hx hy;exact⟨by rw[h1,h3],by simp only[List.zip_cons_cons,List.all_cons,h2,h4,Bool.and_true]⟩
theorem wg{F:Nat->Nat}{w:World}{k k':D}{x y:Value}(hx:bR F w k x)(hy:bR F w k' y)(h:fC k k'=some true):Instr.sameBits 10000 y x=true:=by
 cases k<;>cases k'<;>simp only[fC]at h<;>try (cases h;done)
 ·cases hx;cases hy
  rename_i a b;have h:=Option.some.inj h;show(b ==a)=true;cases a<;>cases b<;>simp_all
 ·cases hx;cases hy
  rename_i k1 a k2 b;split at h
  ·rename_i he
   have he:=of_decide_eq_true he;have h:=of_decide_eq_true (Option.some.inj h);subst he;subst h;simp[Instr.sameBits]
  ·cases h
 ·cases hx;cases hy
  have h:=of_decide_eq_true (Option.some.inj h);subst h;show(_ ==_)=true;rw[LM];simp
 ·obtain⟨lx,rfl,tK⟩:=hx
  obtain⟨ly,rfl,vG⟩:=hy;have h1:=Ao h;subst h1;obtain⟨e,hb⟩:=Bm (n:=9998) h vG tK;have:ly=lx:=Array.ext' e;subst this;rw[show(10000:Nat)=9999+1 from rfl];unfold Instr.sameBits;rw[Bool.and_eq_true];exact⟨by simp,hb⟩
theorem cf.cK{F:Nat->Nat}{w:World}{k:D}{x:Value}(hk:bR F w k x):∀ {cY:List (D×D)} {es:List MapEntry} (n:Nat),cf F w cY es->cf F w (cK cY n k) (es.modify n fun e=>{ e with key:=x })
 | [],es,n,h=>by rw[show es = [] from h];cases n<;>rfl
 | (k',v')::r,es,0,h=>by
  obtain⟨en,es',rfl,_,hv,hr⟩:=h;exact⟨{ en with key:=x },es',by simp,hk,hv,hr⟩
 | (k',v')::r,es,n+1,h=>by
  obtain⟨en,es',rfl,h1,h2,hr⟩:=h;exact⟨en,es'.modify n fun e=>{ e with key:=x },by simp,h1,h2,cf.cK hk n hr⟩
theorem cf.cL{F:Nat->Nat}{w:World}{v:D}{x:Value}(hk:bR F w v x):∀ {cY:List (D×D)} {es:List MapEntry} (n:Nat),cf F w cY es->cf F w (cL cY n v) (es.modify n fun e=>{ e with val:=x })
 | [],es,n,h=>by rw[show es = [] from h];cases n<;>rfl
 | (k',v')::r,es,0,h=>by
  obtain⟨en,es',rfl,nq,_,hr⟩:=h;exact⟨{ en with val:=x },es',by simp,nq,hk,hr⟩
 | (k',v')::r,es,n+1,h=>by
  obtain⟨en,es',rfl,h1,h2,hr⟩:=h;exact⟨en,es'.modify n fun e=>{ e with val:=x },by simp,h1,h2,cf.cL hk n hr⟩
theorem tM.modify{en:Array MapEntry}{c:Nat}(h:tM en c){f:MapEntry->MapEntry}(hf:∀ e,(f e).born=e.born)(n:Nat):tM (en.modify n f) c:=by
 refine⟨by simpa using h.1,fun i e he=>?_⟩;rw[Array.getElem?_modify]at he;split at he
 ·obtain⟨e',Rb,rfl⟩:=Option.map_eq_some_iff.1 he
  rw[hf];exact h.2 i e' Rb
 ·exact h.2 i e he
theorem tM.push{en:Array MapEntry}{c:Nat}(h:tM en c)(k v:Value):tM (en.push { key:=k,val:=v,born:=c }) (c+1):=by
 refine⟨by simp[h.1],fun i e he=>?_⟩;rw[Array.getElem?_push]at he;split at he
 ·rename_i hi
  cases he;rw[hi];exact h.1
 ·exact h.2 i e he
theorem uL{σ:Type}{cx:Cx σ}{r:Option Nat}{m:List Nat}{L:Loc}{F:Nat->Nat}{st:St σ}{a:Act}{w:World}(hg:Good cx r m L F st a w){id:Nat}{cY uH:List (D×D)}(h0:get st.heap id=some (.map cY)){en en':Array MapEntry}{cl cl':Nat}(hb:w.heap[L.ρ id]?=some (.map en cl))
  (hr:cf F w uH en'.toList) (sg:tM en' cl') :
  Good cx r m L F (bV st (.obj id (.map uH))) a { w with heap:=w.heap.setIfInBounds (L.ρ id) (.map en' cl') }/\Tr F w F { w with heap:=w.heap.setIfInBounds (L.ρ id) (.map en' cl') }:=by
 have dh:=(Array.getElem?_eq_some_iff.1 hb).1;have hF:=(hg.heap.own id _ h0 trivial).1;have iL:∀ z,z≠L.ρ id->({ w with heap:=w.heap.setIfInBounds (L.ρ id) (.map en' cl') }:World).heap[z]?=w.heap[z]?:=fun z hz=>by simp[Array.getElem?_setIfInBounds_ne (Ne.symm hz)]
 have tr:Tr F w F { w with heap:=w.heap.setIfInBounds (L.ρ id) (.map en' cl') }:=
  .jc rfl rfl rfl (by simp) (fun _=>Nat.le_refl _) hg.heap.fresh fun b _ hF'=>iL b (by rintro rfl;omega)
 exact hg.obj (o:=.map uH) h0 trivial (w':={ w with heap:=w.heap.setIfInBounds (L.ρ id) (.map en' cl') }) rfl rfl rfl (by simp) iL
  (by rw[hb];intro ds e;cases e) (by rw[hb];intro lp e;cases e) ⟨en',cl',by simp[Array.getElem?_setIfInBounds,dh],cf.mono tr _ _ hr,sg⟩
theorem Bb(hT:bA P T){t:TypeId}{x i y:Operand}(hk:gW T e h dst (.mapUpdate t x i y) K):∃ ws,K ws/\Out P e h ⟨dst,.mapUpdate t x i y,ty,pos,after,guard⟩ ws:=by
 simp only[gW]at hk;split at hk;case h_2=>exact hk.elim
 rename_i kt ki ei id k v hm hx hi hy;split at hk;case h_2=>exact hk.elim
 rename_i cY ho;obtain⟨Ph,⟨q0,hf,hk⟩⟩:=cr hk;obtain⟨el,h1,h3,h5⟩:=yb hT hm;have MO:=Dh hT h3 Ph;have main:∀ (uH:List (D×D)),(∀ {F:Nat->Nat} {w:World} {a:Act} {en:Array MapEntry} {cl:Nat},bR F w k (a.eval i)->bR F w v (a.eval y)->cf F w cY en.toList->tM en cl ->
   ∃ en' cl',(∀ b,a.eval x = .map (some b)->w.heap[b]?=some (.map en cl)->(Instr.mapUpdate t (a.eval x) (a.eval i) (a.eval y)).run P w = .ok () { w with heap:=w.heap.setIfInBounds b (.map en' cl') })/\cf F w uH en'.toList/\tM en' cl') ->
   Out P e h ⟨none,.mapUpdate t x i y,ty,pos,after,guard⟩ [.obj id (.map uH)]:=by
  intro uH bZ σ cx r m L F st a w he hh hg hd;have dV:a.eval x = .map (some (L.ρ id)):=hg.aR (aF he hx);have sy:bR F w k (a.eval i):=hg.aR (aF he hi);have Kc:bR F w v (a.eval y):=hg.aR (aF he hy);have h0:=hh _ _ ho;obtain⟨en,cl,hb,hr,sg⟩:=hg.heap.obj id _ h0;obtain⟨en',cl',xW,J8,SI⟩:=bZ (a:=a) (cl:=cl) sy Kc hr sg;obtain⟨g1,g2⟩:=uL hg h0 hb J8 SI;exact⟨undef,_,.skip,by simp[execOp,xW _ dV hb],.inr ⟨rfl,rfl⟩,L,F,g1,g2⟩
 cases q0 with
 | some nv=>
  obtain⟨n,u⟩:=nv;refine⟨_,hk,main _ fun {F w a en cl} sy Kc hr sg=>?_⟩;obtain⟨ns,q,hq,hm⟩:=nM hT MO sy hf hr
  cases q with
  | none=>exact hm.elim
  | some ju=>
   obtain⟨j,u'⟩:=ju;obtain⟨rfl,_,_,dh,AR,IS,kk,xX,J9⟩:=hm;refine⟨en.modify n fun e=>{ e with key:=a.eval i,val:=a.eval y },cl,fun b Kf hb=>?_,by rw[Array.toList_modify];exact cf.set sy Kc n hr,sg.modify (f:=fun e=>{ e with key:=a.eval i,val:=a.eval y }) (fun _=>rfl) n⟩;have nr:=wg sy xX J9;have J0:en[n]?=some AR:=by simpa using IS
   simp[Instr.mapUpdate,run_underlying h1,Kf,getObj,setObj,Sem.run,hb,ns,hq,Instr.keyThatStays,J0,nr]
 | none=>
  refine⟨_,hk,main _ fun {F w a en cl} sy Kc hr sg=>?_⟩;obtain⟨ns,q,hq,hm⟩:=nM hT MO sy hf hr
  cases q with
  | some ju=>exact hm.elim
  | none=>
   refine⟨en.push { key:=a.eval i,val:=a.eval y,born:=cl },cl+1,fun b Kf hb=>?_,by simpa using cf.push sy Kc hr,sg.push _ _⟩;simp[Instr.mapUpdate,run_underlying h1,Kf,getObj,setObj,Sem.run,hb,ns,hq]
theorem HE(hT:bA P T){t:TypeId}{x i y:Operand}(hk:gW T e h dst (.insert t x i y) K):∃ ws,K ws/\Out P e h ⟨dst,.insert t x i y,ty,pos,after,guard⟩ ws:=by
 simp only[gW]at hk;split at hk;case h_2=>exact hk.elim
 rename_i kt ki ei id k v hm hx hi hy;split at hk;case h_2=>exact hk.elim
 rename_i cY ho;obtain⟨Ph,⟨q0,hf,hk⟩⟩:=cr hk;obtain⟨el,h1,h3,h5⟩:=yb hT hm;have MO:=Dh hT h3 Ph;have main:∀ (uH:List (D×D)),(∀ {F:Nat->Nat} {w:World} {a:Act} {en:Array MapEntry} {cl:Nat},bR F w k (a.eval i)->bR F w v (a.eval y)->cf F w cY en.toList->tM en cl ->
   ∃ en' cl',(∀ b,a.eval x = .map (some b)->w.heap[b]?=some (.map en cl)->(Instr.mapUpdate t (a.eval x) (a.eval i) (a.eval y)).run P w = .ok () { w with heap:=w.heap.setIfInBounds b (.map en' cl') })/\cf F w uH en'.toList/\tM en' cl') ->
   Out P e h ⟨none,.insert t x i y,ty,pos,after,guard⟩ [.obj id (.map uH)]:=by
  intro uH bZ σ cx r m L F st a w he hh hg hd;have dV:a.eval x = .map (some (L.ρ id)):=hg.aR (aF he hx);have sy:bR F w k (a.eval i):=hg.aR (aF he hi);have Kc:bR F w v (a.eval y):=hg.aR (aF he hy);have h0:=hh _ _ ho;obtain⟨en,cl,hb,hr,sg⟩:=hg.heap.obj id _ h0;obtain⟨en',cl',xW,J8,SI⟩:=bZ (a:=a) (cl:=cl) sy Kc hr sg;obtain⟨g1,g2⟩:=uL hg h0 hb J8 SI;exact⟨undef,_,.skip,by simp[execOp,xW _ dV hb],.inr ⟨rfl,rfl⟩,L,F,g1,g2⟩
 cases q0 with
 | some nv=>
  obtain⟨n,u⟩:=nv;refine⟨_,hk,main _ fun {F w a en cl} sy Kc hr sg=>?_⟩;obtain⟨ns,q,hq,hm⟩:=nM hT MO sy hf hr
  cases q with
  | none=>exact hm.elim
  | some ju=>
   obtain⟨j,u'⟩:=ju;obtain⟨rfl,_,_,dh,AR,IS,kk,xX,J9⟩:=hm;refine⟨en.modify n fun e=>{ e with key:=a.eval i,val:=a.eval y },cl,fun b Kf hb=>?_,by rw[Array.toList_modify];exact cf.set sy Kc n hr,sg.modify (f:=fun e=>{ e with key:=a.eval i,val:=a.eval y }) (fun _=>rfl) n⟩;have nr:=wg sy xX J9;have J0:en[n]?=some AR:=by simpa using IS
   simp[Instr.mapUpdate,run_underlying h1,Kf,getObj,setObj,Sem.run,hb,ns,hq,Instr.keyThatStays,J0,nr]
 | none=>
  refine⟨_,hk,main _ fun {F w a en cl} sy Kc hr sg=>?_⟩;obtain⟨ns,q,hq,hm⟩:=nM hT MO sy hf hr
  cases q with
  | some ju=>exact hm.elim
  | none=>
   refine⟨en.push { key:=a.eval i,val:=a.eval y,born:=cl },cl+1,fun b Kf hb=>?_,by simpa using cf.push sy Kc hr,sg.push _ _⟩;simp[Instr.mapUpdate,run_underlying h1,Kf,getObj,setObj,Sem.run,hb,ns,hq]
theorem Du(hT:bA P T){t:TypeId}{x i:Operand}(hk:gW T e h dst (.mapEntry t x i) K):∃ ws,K ws/\Out P e h ⟨dst,.mapEntry t x i,ty,pos,after,guard⟩ ws:=by
 simp only[gW]at hk;split at hk;case h_2=>exact hk.elim
 rename_i d kt ki ei id k hm hx hi;split at hk;case h_2=>exact hk.elim
 rename_i cY ho;obtain⟨Ph,⟨q0,hf,hk⟩⟩:=cr hk;obtain⟨el,h1,h3,h5⟩:=yb hT hm;have MO:=Dh hT h3 Ph
 cases q0 with
 | some nv=>
  obtain⟨n,u⟩:=nv;refine⟨_,hk,?_⟩;intro σ cx r m L F st a w he hh hg hd;have dV:a.eval x = .map (some (L.ρ id)):=hg.aR (aF he hx);have sy:bR F w k (a.eval i):=hg.aR (aF he hi);have h0:=hh _ _ ho;obtain⟨en,cl,hb,hr,sg⟩:=hg.heap.obj id _ h0;obtain⟨ns,q,hq,hm⟩:=nM hT MO sy hf hr
  cases q with
  | none=>exact hm.elim
  | some ju=>
   obtain⟨j,u'⟩:=ju;obtain⟨rfl,hu,_,dh,AR,IS,kk,xX,J9⟩:=hm;have nr:=wg sy xX J9;have J0:en[n]?=some AR:=by simpa using IS
   obtain⟨g1,g2⟩:=uL hg h0 (en':=en.modify n fun e=>{ e with key:=a.eval i }) (cl':=cl) hb (by rw[Array.toList_modify];exact cf.cK sy n hr) (sg.modify (f:=fun e=>{ e with key:=a.eval i }) (fun _=>rfl) n);refine⟨.tuple #[u',goInt n],_,_,?_,.inl rfl,L,F,g1.set (v:=.d (.tup [u,.int .i64 n])) (hd d rfl) ⟨_,rfl,_,_,rfl,bR.mono g2 _ _ hu,_,_,rfl,rfl,rfl⟩,g2⟩;simp[execOp,Instr.mapEntry,run_underlying h1,dV,getObj,setObj,Sem.run,hb,ns,hq,Instr.keyThatStays,J0,nr,sg.2 n AR J0]
 | none=>
  simp only at hk;split at hk;case h_2=>exact hk.elim
  rename_i z hz;refine⟨_,hk,?_⟩;intro σ cx r m L F st a w he hh hg hd;have dV:a.eval x = .map (some (L.ρ id)):=hg.aR (aF he hx);have sy:bR F w k (a.eval i):=hg.aR (aF he hi);have h0:=hh _ _ ho;obtain⟨en,cl,hb,hr,sg⟩:=hg.heap.obj id _ h0;obtain⟨ns,q,hq,hm⟩:=nM hT MO sy hf hr
  cases q with
  | some ju=>exact hm.elim
  | none=>
   obtain⟨zv,I0,Rt⟩:=yj (F:=F) (w:=w) hT h5 hz;obtain⟨g1,g2⟩:=uL hg h0 (en':=en.push { key:=a.eval i,val:=zv,born:=cl }) (cl':=cl+1) hb (by simpa using cf.push sy Rt hr) (sg.push _ _);have AW:cl=cY.length:=by
    have:=cf.get hr;rw[sg.1];simpa using this
   refine⟨.tuple #[zv,goInt cl],_,_,?_,.inl rfl,L,F,g1.set (v:=.d (.tup [z,.int .i64 cY.length])) (hd d rfl) ⟨_,rfl,_,_,rfl,bR.mono g2 _ _ Rt,_,_,rfl,by rw[AW];rfl,rfl⟩,g2⟩;simp[execOp,Instr.mapEntry,run_underlying h1,dV,getObj,setObj,Sem.run,hb,ns,hq,I0]
theorem zY(hT:bA P T){t:TypeId}{x i y:Operand}(hk:gW T e h dst (.entryStore t x i y) K):∃ ws,K ws/\Out P e h ⟨dst,.entryStore t x i y,ty,pos,after,guard⟩ ws:=by
 simp only[gW]at hk;split at hk;case h_2=>exact hk.elim
 rename_i id n v hx hi hy;split at hk;case h_2=>exact hk.elim
 rename_i cY ho;obtain⟨hc,hk⟩:=cr hk;simp only[Bool.and_eq_true,decide_eq_true_eq]at hc;refine⟨_,hk,?_⟩;intro σ cx r m L F st a w he hh hg hd;have dV:a.eval x = .map (some (L.ρ id)):=hg.aR (aF he hx);have gN:a.eval i = .int .i64 n:=hg.aR (aF he hi);have Kc:bR F w v (a.eval y):=hg.aR (aF he hy);have h0:=hh _ _ ho;obtain⟨en,cl,hb,hr,sg⟩:=hg.heap.obj id _ h0;have dD:en.size=cY.length:=by simpa using cf.get hr
 obtain⟨g1,g2⟩:=uL hg h0 (en':=en.modify n.toNat fun e=>{ e with val:=a.eval y }) (cl':=cl) hb (by rw[Array.toList_modify];exact cf.cL Kc n.toNat hr) (sg.modify (f:=fun e=>{ e with val:=a.eval y }) (fun _=>rfl) _);have MJ:en.findIdx? (fun e=>(e.born:Int) ==n)=some n.toNat:=by
  rw[Array.findIdx?_eq_some_iff_getElem];refine⟨by omega,?_,fun j hj=>?_⟩
  ·have:=sg.2 n.toNat _ (Array.getElem?_eq_getElem (by omega))
   simp[this];omega
  ·have:=sg.2 j _ (Array.getElem?_eq_getElem (by omega))
   simp[this];omega
 refine⟨undef,_,.skip,?_,.inr ⟨rfl,rfl⟩,L,F,g1,g2⟩;simp[execOp,Instr.entryStore,dV,gN,getObj,setObj,Sem.run,hb,MJ,asInt,asIntOf]
end
theorem sJ{α:Type}{z:List α}:∀ {n j:Nat} {c:α},(List.replicate n z).flatten[j]?=some c->z[j%z.length]?=some c
 | 0,j,c,h=>by simp at h
 | n+1,j,c,h=>by
  rw[List.replicate_succ,List.flatten_cons]at h;by_cases hj:j<z.length
  ·rw[List.getElem?_append_left hj]at h
   rw[Nat.mod_eq_of_lt hj];exact h
  ·rw[List.getElem?_append_right (by omega)]at h
   rw[Nat.mod_eq_sub_mod (by omega)];exact sJ h
theorem Good.F7{σ:Type}{cx:Cx σ}{r:Option Nat}{m:List Nat}{L:Loc}{F:Nat->Nat}{st st':St σ}{a:Act}{w:World}(hh:Good cx r m L F st a w)(hg:∀ i,get st'.heap i=get st.heap i)(he:st'.env=st.env:=by rfl)(hs:st'.s=st.s:=by rfl):Good cx r m L F st' a w:=by
 cases st with|mk e h s=>
 cases st' with|mk e' h' s'=>
 have he:e'=e:=he;have hs:s'=s:=hs;have hg:∀ i,get h' i=get h i:=hg;subst he hs;obtain⟨⟨h1,h2,h3,h4,h5,h6⟩,h7,h8,h9,YG,h11,Ul,h13⟩:=hh;exact⟨⟨h1,h2,h3,fun i o hi=>h4 i o (by rw[<- hg i];exact hi),fun i o hi=>h5 i o (by rw[<- hg i];exact hi),fun i j o p hi hj=>h6 i j o p (by rw[<- hg i];exact hi) (by rw[<- hg j];exact hj)⟩,h7,h8,h9,YG,h11,Ul,h13⟩
section
variable {P : Program} {T : fA} {e : Env} {h : Heap} {dst : Option Nat} {K : List Wr -> Prop} {ty : TypeId} {pos : String} {after : Array Edge} {guard : Option (Nat × Bool)}
theorem Ba(hT:bA P T){t:TypeId}{l c:Operand}(hk:gW T e h dst (.makeSlice t l c) K):∃ ws,K ws/\Out P e h ⟨dst,.makeSlice t l c,ty,pos,after,guard⟩ ws:=by
 simp only[gW]at hk;split at hk;case h_2=>exact hk.elim
 rename_i ei n m d hs hl hc;split at hk;case h_2=>exact hk.elim
 rename_i z Hk;obtain⟨O5,hk⟩:=cr hk;simp only[Bool.and_eq_true,decide_eq_true_eq]at O5;obtain⟨gL,h0,zf⟩:=O5;obtain⟨mK,hk⟩:=cr hk;have mK:=of_decide_eq_true mK;obtain⟨el,hu,kD⟩:=mn hT hs;have G6:=gL;simp only[pd,Bool.and_eq_true,Ih,Hk]at G6;have UC:z.length=ei.size:=eM G6.2;obtain⟨i,dd,nX,C0,fJ,s5,_,_,_,hz⟩:=hT el ei kD;obtain⟨zv,Ki,A5,_⟩:=hz z Hk;obtain⟨_,_,_,_,dD,IP,_,_,_⟩:=ua hT kD gL;refine⟨_,hk,?_⟩;intro σ cx r mm L F st a w he hh hg hd;have aaO:a.eval l = .int .i64 n:=hg.aR (aF he hl);have aaP:a.eval c = .int .i64 m:=hg.aR (aF he hc);have MR:0<=m:=by omega
 have hmb:m<=m*(ei.bytes:Int):=by
  have h1:(1:Int)<=(ei.bytes:Int):=by omega
  calc m=m*1:=by omega
   _<=m*(ei.bytes:Int):=Int.mul_le_mul_of_nonneg_left h1 MR
 have hr:=run_make (P:=P) w t el i zv hu nX Ki .i64 .i64 n m h0 zf (by rw[<- s5,Int.mul_comm];omega) (by omega);have I0:∀ w':World,bt F w' z zv.cells.toList:=fun w'=>ke A5;have Ru:zv.cells.size=ei.size:=by
  have:=(I0 w).length;rw[UC]at this;simpa using this
 generalize hcells:madeCells zv.cells (m.toNat*i.size)=cells at hr;have s6:cells.size=m.toNat*ei.size:=by rw[<- hcells,size_madeCells,fJ]
 have iM:dE ei.size (bx.dd (List.replicate n.toNat z)).bJ:=by
  intro e he;simp only[bx.bJ,cc,List.mem_map]at he;obtain⟨y,hy,rfl⟩:=he;rw[List.eq_of_mem_replicate hy,eR,UC]
 have xE:(bx.dd (List.replicate n.toNat z)).bJ.length=n.toNat:=by simp[bx.bJ,cc]
 have hle:n.toNat*ei.size<=m.toNat*ei.size:=Nat.mul_le_mul_right _ (by omega);have tr:Tr F w F (w.alloc (.cells cells el)):=Tr.alloc hg.heap.fresh _;have wT:aq cx.yv L F w (bx.dd (List.replicate n.toNat z)).bJ.flatten (cells.toList.take (n.toNat*ei.size)):=by
  show aq _ _ _ _ (bg _).flatten _;rw[eG];have IT:(List.replicate n.toNat z).flatten.length=n.toNat*ei.size:=by
   simp[UC]
  refine .lq (by rw[eR,IT];simp;omega) fun j v hj=>?_;have C5:j<n.toNat*ei.size:=by
   have:=(List.getElem?_eq_some_iff.1 hj).1;rw[eR,IT]at this;exact this
  rw[List.getElem?_take_of_lt C5];simp only[xY,Option.map_eq_some_iff]at hj;obtain⟨v',M7,rfl⟩:=hj;have:=sJ M7;obtain⟨x,hx,hxr⟩:=bt.get _ (I0 w) this;refine⟨x,?_,hxr⟩;rw[<- hcells];have hjm:j<m.toNat*i.size:=by rw[<- fJ];omega
  rw[UC,<- Ru]at hx;have kE:zv.cells[j%zv.cells.size]?=some x:=by simpa using hx
  have dh:=(Array.getElem?_eq_some_iff.1 kE).1;have:zv.cells[j%zv.cells.size]! =x:=by
   rw[getElem!_pos zv.cells (j%zv.cells.size) dh];exact(Array.getElem?_eq_some_iff.1 kE).2
  simp[madeCells,hjm,this]
 have ux:=hg.new d cells.size (.arr ei.size (.dd (List.replicate n.toNat z))) (.cells cells el) (hg.fN (hd d rfl)) ⟨dD,iM,.inr ⟨cells,el,(by show(w.alloc _).heap[if d=d then w.heap.size else L.ρ d]?=_;rw[if_pos rfl];exact heap_alloc_new w _),(by simp),(by rw[xE,s6];exact hle),(by
  rw[xE];exact aq.mY (L:=L) (id:=d) tr (fun i hi=>by simp[hi]) (qv (c:=.dd _) rfl) wT)⟩⟩
 have bZ:(execOp a.eval ⟨some d,.makeSlice t l c,ty,pos,after,guard⟩).run P w = .ok (.value (.slice (some ⟨w.heap.size,0,none⟩) n.toNat m.toNat)) (w.alloc (.cells cells el)):=by
  simp[execOp,aaO,aaP,hr]
 refine⟨_,_,_,bZ,.inl rfl,_,F,ux.set (v:=.sl d ei.size 0 n.toNat) (hd d rfl) ⟨_,_,rfl,by omega,dD,.inr ⟨(by simp),(by simp[s6])⟩⟩,tr⟩
theorem N2{w:World}{dT sT ty el:TypeId}{i:TypeInfo}(hu:P.underlying dT=some (.slice el))(hi:P.info? el=some i)(hs:i.size=1){base ay:Option Addr}{dLen dCap sLen sCap:Nat}{cs:List Value}
  (hl:cs.length=min sLen dLen) (hc:cs = [] \/ ∃ b off,ay=some ⟨b,off,none⟩ /\ ∀ (j:Nat) v,cs[j]?=some v->w.cell? ⟨b,off+j,none⟩=some v)
  {g o:Nat} {cur:Array Value} {t:TypeId} (hb:cs = []\/base=some ⟨g,o,none⟩) (hg:w.heap[g]?=some (.cells cur t (0,0))) (hf:o+cs.length<=cur.size) (h1:∀ v∈cs,v.oneCell'=true) :
  (Builtin.copy_ #[dT,sT] ty #[.slice base dLen dCap,.slice ay sLen sCap]).run P w = .ok (goInt cs.length) (w.setRow g (cur.toList.take o++cs++cur.toList.drop (o+cs.length)).toArray):=by
 rcases hb with rfl|rfl
 ·have vH:min sLen dLen=0:=by simpa using hl.symm
  have J4:Nat.min sLen dLen=0:=vH;have zi:w.setRow g (cur.toList.take o ++ []++cur.toList.drop (o+([]:List Value).length)).toArray=w:=by
   simp only[List.append_nil,List.length_nil,Nat.add_zero,List.take_append_drop,Array.toArray_toList];exact setRow_self w g cur t (0,0) hg
  rw[zi];cases base<;>cases ay<;>simp[Builtin.copy_,run_underlying hu,Builtin.lenOf,Builtin.firstCells,sizeOf,typeInfo,hi,hs,J4,storeCells,loadCells,loadCellsFrom]
 ·rcases hc with rfl|⟨b,off,rfl,hj⟩
  ·have vH:min sLen dLen=0:=by simpa using hl.symm
   have J4:Nat.min sLen dLen=0:=vH;have zi:w.setRow g (cur.toList.take o ++ []++cur.toList.drop (o+([]:List Value).length)).toArray=w:=by
    simp only[List.append_nil,List.length_nil,Nat.add_zero,List.take_append_drop,Array.toArray_toList];exact setRow_self w g cur t (0,0) hg
   rw[zi];cases ay<;>simp[Builtin.copy_,run_underlying hu,Builtin.lenOf,Builtin.firstCells,sizeOf,typeInfo,hi,hs,J4,storeCells,loadCells,loadCellsFrom]
  ·exact run_copy_row P w dT sT ty el g o dLen dCap ⟨b,off,none⟩ sLen sCap cur t cs hu (by simp[hi,hs]) hg hl (fun j v hv=>by rw[fG];exact hj j v hv) hf h1
theorem ND(hT:bA P T){args:Array Operand}{tys:Array TypeId}(hk:fH T e h dst .copy args tys K):∃ ws,K ws/\Out P e h ⟨dst,.call ⟨.builtin .copy,args,tys⟩,ty,pos,after,guard⟩ ws:=by
 simp only[fH]at hk;split at hk;case h_2=>exact hk.elim
 rename_i x y t u dM E8;split at hk;case h_2=>exact hk.elim
 rename_i ei ui id sz off n v kD Uy hx hy;split at hk;case h_2=>exact hk.elim
 rename_i mm es fP;obtain⟨hc,fx⟩:=cr hk;clear hk;simp only[Bool.and_eq_true]at hc;obtain⟨qc,zn,D5⟩:=hc;have qc:=eM qc;have zn:=eM zn;have D5:=eM D5;subst zn D5;obtain⟨fs,Lg,hk⟩:=Eu fx;clear fx;split at hk;case h_2=>exact hk.elim
 rename_i fs;obtain⟨hc,hk⟩:=cr hk;simp only[Bool.and_eq_true]at hc;obtain⟨hle,IT⟩:=hc;have hle:=oh hle;obtain⟨el,xJ,O8⟩:=mn hT kD;obtain⟨ie,dd,nX,C0,fJ,s5,_⟩:=hT el ei O8;refine⟨_,hk,?_⟩;intro σ cx r m L F st a w he hh hg hd;obtain⟨base,cap,dV,Y0,_,hb⟩:=hg.aR (aF he hx);have C3:∀ e∈(bx.dd fs).bJ,e.length=1/\dc e=true:=CQ (es:=.dd fs) IT;have xW:=hh _ _ fP;obtain⟨_,iM,dO⟩:=hg.heap.obj id _ xW;obtain⟨ay,UW,news,Pz,Wo,C8,pq,pV⟩:=ud hh hg.heap Lg (hg.aR (aF he hy)) (fun e he=>(C3 e he).1) (Nat.one_pos);have h1:=C8.one (gQ fun e he=>(C3 e he).2);have SS:(bx.dd fs).bJ.length=fs.length:=by simp[bx.bJ,cc]
 rw[SS,Nat.mul_one]at pq;rw[SS]at Pz;have xE:(bx.dd es).bJ.length=es.length:=by simp[bx.bJ,cc]
 generalize xX:min fs.length n=k at hk ⊢;have vC:args.map a.eval = #[.slice base n cap,a.eval y]:=by
  apply Array.ext';simp[dM,dV]
 have Ro:tys = #[t,u]:=by
  apply Array.ext';simp[E8]
 have A0:k<=fs.length:=by omega
 have YY:k<=n:=by omega
 have vF:(news.take k).length=k:=by rw[List.length_take,pq];omega
 have BM:∀ {α:Type} (l:List α),(l.take off++([]:List α)++l.drop (off+0))=l:=fun l=>by simp
 have Wy:(fs.take k).flatten.length=k:=by
  have:=kI (α:=D) (sz:=1) (es:=fs.take k) (fun e he=>by
   have:=(C3 (inj e) (by simp only[bx.bJ,cc,List.mem_map];exact⟨e,List.mem_of_mem_take he,rfl⟩)).1
   rwa [eR]at this)
  rw[this,List.length_take];omega
 rcases dO with⟨nY,hκ0⟩|⟨l,E,lH,nq,M3,Hc⟩
 ·
  have xF:es = []:=by
   have:=congrArg List.length nY;rw[xE]at this;exact List.length_eq_zero_iff.1 this
  subst xF;have JS:off+n=0:=by simpa using hle
  have hkz:k=0:=by omega
  have hoz:off=0:=by omega
  subst hkz hoz;have hnz:n=0:=by omega
  subst hnz;have zi:(([]:List (List D)).take 0++fs.take 0++([]:List (List D)).drop (0+0)) = []:=by simp
  rw[zi];have hr:(Builtin.copy_ #[t,u] ty #[.slice base 0 cap,a.eval y]).run P w = .ok (goInt 0) w:=by
   rw[Pz];cases base<;>cases ay<;>simp[Builtin.copy_,run_underlying xJ,Builtin.lenOf,Builtin.firstCells,sizeOf,typeInfo,nX,<- fJ,qc,storeCells,loadCells,loadCellsFrom]
  have hgs:Good cx r m L F (bV st (.obj id (.arr 1 (.dd [])))) a w:=by
   refine hg.F7 (fun i=>?_);simp only[bV,e6];split
   ·rename_i e;rw[e,xW]
   ·rfl
  refine⟨goInt 0,w,_,by simp[execOp,resolve,invoke,builtin,vC,Ro,hr],.inl rfl,L,F,?_,Tr.refl F w⟩;exact hgs.bw (v:=.d (.int .i64 ((0:Nat):Int))) hd rfl
 ·have iU:k=0\/(base=some ⟨L.ρ id,off,none⟩/\off+cap<=L.κ id):=by
   rcases hb with⟨h0,_⟩|⟨h0,h1⟩
   ·exact .inl (by omega)
   ·exact .inr ⟨by simpa using h0,by simpa using h1⟩
  rw[Nat.mul_one]at M3 Hc;rw[xE]at M3 Hc;have hr:=N2 (P:=P) (w:=w) (ty:=ty) (dT:=t) (sT:=u) xJ nX (by rw[<- fJ,qc]) (base:=base) (ay:=ay) (dLen:=n) (dCap:=cap) (sLen:=fs.length) (sCap:=UW) (cs:=news.take k)
   (by rw[vF,xX]) (by
    rcases pV with h0|⟨b,o,e1,h1⟩
    ·left
     have:fs.length=0:=by rw[<- SS,h0];rfl
     have:k=0:=by omega
     rw[this];rfl
    ·exact .inr ⟨b,o,e1,fun j v hv=>h1 j v (by
      have hjk:j<k:=by
       have:=(List.getElem?_eq_some_iff.1 hv).1;rw[vF]at this;exact this
      rwa [List.getElem?_take_of_lt hjk]at hv)⟩)
   (g:=L.ρ id) (o:=off) (cur:=l) (t:=E) (by
    rcases iU with h0|h0
    ·left;rw[h0];rfl
    ·exact .inr h0.1) lH (by rw[vF];omega) (fun v hv=>h1 v (List.mem_of_mem_take hv))
  rw[<- Pz]at hr;rw[vF]at hr;have hL:=Array.length_toList (xs:=l);have Tq:=iw (cs:=l.toList) (l:=news.take k) (off:=off) (by rw[vF];omega);rw[vF]at Tq;generalize rQ:(l.toList.take off++news.take k++l.toList.drop (off+k)).toArray=c' at hr;have ce:c'.toList=l.toList.take off++news.take k++l.toList.drop (off+k):=by rw[<- rQ]
  have AX:c'.size=l.size:=by rw[<- ce]at Tq;simpa using Tq
  have fo:Good cx r m L F (bV st (.obj id (.arr 1 (.dd (es.take off++fs.take k++es.drop (off+k)))))) a (w.setRow (L.ρ id) c')/\Tr F w F (w.setRow (L.ρ id) c'):=by
   by_cases hκ:L.κ id=0
   ·
    have hlz:l.size=0:=by rw[nq,hκ]
    have hez:es = []:=List.length_eq_zero_iff.1 (by omega);subst hez;have JS:off+n=0:=by simpa using hle
    have hkz:k=0:=by omega
    have hoz:off=0:=by omega
    subst hkz hoz;have zi:(([]:List (List D)).take 0++fs.take 0++([]:List (List D)).drop (0+0)) = []:=by simp
    rw[zi];have AW:c'=l:=by
     rw[<- rQ];simp
    rw[AW,setRow_self w _ _ _ _ lH];refine⟨hg.F7 (fun i=>?_),Tr.refl F w⟩;simp only[bV,e6];split
    ·rename_i e;rw[e,xW]
    ·rfl
   ·have tr:Tr F w F (w.setRow (L.ρ id) c'):=
     .jc rfl rfl rfl (by simp) (fun _=>Nat.le_refl _) hg.heap.fresh fun b _ hF=>setRow_other _ _ _ _ (by rintro rfl;have:=(hg.heap.own id _ xW hκ).1;omega)
    have Rg:(es.take off++fs.take k++es.drop (off+k)).length=es.length:=by
     have:=iw (cs:=es) (l:=fs.take k) (off:=off) (by rw[List.length_take];omega);rw[List.length_take,Nat.min_eq_left A0]at this;exact this
    refine hg.obj (o:=.arr 1 (.dd (es.take off++fs.take k++es.drop (off+k)))) xW hκ (w':=w.setRow (L.ρ id) c') rfl rfl rfl (size_setRow _ _ _) (fun b hb=>setRow_other _ _ _ _ hb)
     (by rw[lH];intro ds e;cases e) (by rw[lH];intro lp e;cases e)
     ⟨Nat.one_pos,?_,.inr ⟨c',E,setRow_heap _ _ _ _ _ _ lH,by rw[AX,nq],?_,?_⟩⟩
    ·intro e he
     simp only[bx.bJ,cc,List.mem_map,List.mem_append]at he;obtain⟨q,hq,rfl⟩:=he;rcases hq with(hq|hq)|hq
     ·exact iM _ (by simp only[bx.bJ,cc,List.mem_map];exact⟨q,List.mem_of_mem_take hq,rfl⟩)
     ·exact(C3 _ (by simp only[bx.bJ,cc,List.mem_map];exact⟨q,List.mem_of_mem_take hq,rfl⟩)).1
     ·exact iM _ (by simp only[bx.bJ,cc,List.mem_map];exact⟨q,List.mem_of_mem_drop hq,rfl⟩)
    ·simp only[bx.bJ,cc,List.length_map,Rg,Nat.mul_one,AX];omega
    ·have e0:(bx.dd (es.take off++fs.take k++es.drop (off+k))).bJ.length*1=es.length:=by simp only[bx.bJ,cc,List.length_map,Rg,Nat.mul_one]
     rw[e0,ce];refine aq.mono tr _ _ (fun _ _=>⟨rfl,rfl⟩) ?_;have e1:(bx.dd (es.take off++fs.take k++es.drop (off+k))).bJ.flatten=(bx.dd es).bJ.flatten.take off++((bx.dd fs).bJ.flatten.take k)++(bx.dd es).bJ.flatten.drop (off+k):=by
      have h1:=iE (es:=(bx.dd es).bJ) off iM;have h2:=iE (es:=(bx.dd fs).bJ) k (fun e he=>(C3 e he).1);have h3:=pj (es:=(bx.dd es).bJ) (off+k) iM;rw[Nat.mul_one]at h1 h2 h3;rw[<- h1,<- h2,<- h3];simp[bx.bJ,cc,List.map_take,List.map_drop]
     rw[e1];have e2:((l.toList.take off++news.take k++l.toList.drop (off+k)).take es.length)=(l.toList.take es.length).take off++news.take k++(l.toList.take es.length).drop (off+(news.take k).length):=by
      have:=xw (l:=l.toList) (Y:=news.take k) (o:=off) (n:=es.length) (by rw[vF];omega) (by omega);rw[vF]at this ⊢;exact this
     rw[e2,vF];exact((Hc.take off).append (C8.take k)).append (Hc.drop (off+k))
  refine⟨goInt k,_,_,by simp[execOp,resolve,invoke,builtin,vC,Ro,hr],.inl rfl,L,F,?_,fo.2⟩;exact fo.1.bw (v:=.d (.int .i64 ((k:Nat):Int))) hd rfl
end
end Go.PX
