import Derived.Test.YtmbefpmbnhdbpaaGreatDoorPxD
import Derived.Laws.MakeOwn
set_option linter.all false
namespace Go.PX
open Go.RowKit
section
variable {P : Program} {T : e7} {e : Env} {h : Heap} {dst : Option Nat} {K : List Wr -> Prop} {ty : TypeId} {pos : String} {after : Array Edge} {guard : Option (Nat × Bool)}
theorem Jp(hT:bA P T){t:TypeId}{x:Operand}(hk:gL T e h dst (.range t x) K):∃ ws,K ws/\Out P e h ⟨dst,.range t x,ty,pos,after,guard⟩ ws:=by
 simp only[gL]at hk;split at hk;case h_3=>exact hk.elim
 case h_2=>
  rename_i ti id d ht hx;split at hk;case h_2=>exact hk.elim
  rename_i mk me cJ eP hid;obtain⟨eW,hk⟩:=ca hk;have eW:id≠d:=by rintro rfl;simp at eW
  obtain⟨de,gP,eI⟩:=fp hT ht;rw[eP]at eI;have:=tp eI.symm;subst this;refine⟨_,hk,?_⟩;intro σ cx r m L F st a w he hh hg hd;have dC:a.eval x = .map (some (L.ρ id)):=hg.aS (aF he hx);obtain⟨en,c,hb,hr,qR⟩:=hg.heap.obj id _ (hh _ _ hid);have hl:c=cJ.length:=by rw[qR.1];simpa using bW.get hr
  have tr:Tr F w F (w.alloc (.mapIter (some (L.ρ id)) c #[] c)):=Tr.alloc hg.heap.fresh _;have te:=hg.new d 0 (.mit (.mp id) cJ.length (List.range cJ.length) none) (.mapIter (some (L.ρ id)) c #[] c) (hg.fy (hd d rfl))
   ⟨L.ρ id,#[],by show Value.map (some _) = .map (some _);simp[eW],by show(w.alloc _).heap[if d=d then w.heap.size else L.ρ d]?=_;rw[if_pos rfl,heap_alloc_new w _,hl],(fun i=>by simp),fun i e=>by cases e⟩
  refine⟨.pointer (some ⟨w.heap.size,0,none⟩),_,_,?_,.inl rfl,_,F,te.set (v:=.it d) (hd d rfl) (by show Value.pointer _=Value.pointer _;simp),tr⟩;simp[execOp,dC,Instr.range,run_underlying gP,getObj,Sem.run,hb]
 rename_i ti s d ht hx;split at hk;case h_2=>exact hk.elim
 rename_i eP;obtain⟨de,gP,eI⟩:=fp hT ht;rw[eP]at eI;have:=jo eI.symm;subst this;refine⟨_,hk,?_⟩;intro σ cx r m L F st a w he hh hg hd;have dC:=lE hg he hx;have tr:Tr F w F (w.alloc (.stringIter s 0)):=Tr.alloc hg.heap.fresh _;have te:=hg.new d 0 (.iter s 0) (.stringIter s 0) (hg.fy (hd d rfl)) (by show(w.alloc _).heap[if d=d then w.heap.size else L.ρ d]?=_;rw[if_pos rfl];exact heap_alloc_new w _);refine⟨.pointer (some ⟨w.heap.size,0,none⟩),_,_,?_,.inl rfl,_,F,te.set (v:=.it d) (hd d rfl) (by show Value.pointer _=Value.pointer _;simp),tr⟩;simp[execOp,dC,Instr.range,run_underlying gP]
theorem LW{σ:Type}{cx:Cx σ}{r:Option Nat}{m:List Nat}{L:Loc}{F:Nat->Nat}{st:St σ}{a:Act}{w:World}(hg:Good cx r m L F st a w){h:Heap}(hh:dB h st.heap){v:V}{cJ:List (D×D)}(zw:Ou h v=some cJ){rb:Nat}(hv:bg cx.yv L F w v (.map (some rb))) :
  ∃ en c,w.heap[rb]?=some (.map en c)/\bW F w cJ en.toList/\sA en c:=by
 unfold Ou at zw;split at zw;case h_2=>cases zw
 rename_i mm;split at zw;case h_2=>cases zw
 rename_i tu hmm;cases zw;have hv:Value.map (some rb) = .map (some (L.ρ mm)):=hv;simp only[Value.map.injEq,Option.some.injEq]at hv;rw[hv];exact hg.heap.obj mm _ (hh _ _ hmm)
theorem Jm{x:Operand}(hk:gL T e h dst (.entry x) K):∃ ws,K ws/\Out P e h ⟨dst,.entry x,ty,pos,after,guard⟩ ws:=by
 simp only[gL]at hk;split at hk;case h_2=>exact hk.elim
 rename_i id hx;split at hk;case h_2=>exact hk.elim
 rename_i v n todo i hid;split at hk;case h_2=>exact hk.elim
 rename_i cJ zw;obtain⟨hn,⟨k,u⟩,hi,hk⟩:=hk;refine⟨_,hk,bI (v:=.d (.tup [k,u])) (o:=⟨dst,.entry x,ty,pos,after,guard⟩) fun cx r m L F st a w he hh hg=>?_⟩;have dC:a.eval x = .pointer (some ⟨L.ρ id,0,none⟩):=hg.aS (aF he hx);obtain⟨rb,seen,hv,hb,_,Zf⟩:=hg.heap.obj id _ (hh _ _ hid);obtain⟨en,c,hm,hr,qR⟩:=LW hg hh zw hv;have lK:=Zf i rfl;have Lc:c=n:=by
  rw[qR.1,<- hn];simpa using bW.get hr
 have Hv:i<en.size:=by
  have:=(List.getElem?_eq_some_iff.1 hi).1;have h2:=bW.get hr;simp at h2;omega
 obtain⟨k',u',Xb,rh,hur⟩:=bW.at hr (i:=i) (e:=en[i]) (by simp[Hv]);rw[hi]at Xb;cases Xb;have Lh:en.find? (·.born ==i)=some en[i]:=by
  rw[Array.find?_eq_some_iff_getElem];have iN:=qR.2 i _ (Array.getElem?_eq_getElem Hv);refine⟨by simp[iN],i,Hv,rfl,fun j hj=>?_⟩;have:=qR.2 j _ (Array.getElem?_eq_getElem (by omega));simp[this];omega
 refine⟨.tuple #[en[i].key,en[i].val],?_,⟨_,rfl,_,_,rfl,rh,_,_,rfl,hur,rfl⟩⟩;simp[execOp,dC,Instr.entry,getObj,Sem.run,Sem.run_bind,hb,lK,hm,Lc,Lh]
theorem Mr{x:Operand}{b:Bool}(hk:gL T e h dst (.next x b) K):∃ ws,K ws/\Out P e h ⟨dst,.next x b,ty,pos,after,guard⟩ ws:=by
 simp only[gL]at hk;split at hk;case h_2=>exact hk.elim
 rename_i id hx;split at hk;case h_2=>exact hk.elim
 rename_i s p hs;rcases sM hk with⟨hb,⟨hk⟩⟩|⟨hb,hk⟩
 ·have hb:=of_decide_eq_true hb
  refine⟨_,hk,?_⟩;intro σ cx r m L F st a w he hh hg hd;have dC:a.eval x = .pointer (some ⟨L.ρ id,0,none⟩):=hg.aS (aF he hx);have h0:=hh _ _ hs;have iN:w.heap[L.ρ id]?=some (.stringIter s p):=hg.heap.obj id _ h0;have dN:=(Array.getElem?_eq_some_iff.1 iN).1;obtain⟨g1,g2⟩:=hg.obj (o:=.iter s (p+(Utf8.decode s p).2)) h0 trivial (w':={ w with heap:=w.heap.setIfInBounds (L.ρ id) (.stringIter s (p+(Utf8.decode s p).2)) }) rfl rfl rfl (by simp) (fun y hy=>by simp[Array.getElem?_setIfInBounds_ne (Ne.symm hy)])
   (by rw[iN];intro ds e;cases e) (by rw[iN];intro lp e;cases e) (by show _=_;simp[Array.getElem?_setIfInBounds,dN])
  refine⟨.tuple #[.bool true,.int .i64 p,.int .i32 (Utf8.decode s p).1],_,_,?_,.inl rfl,L,F,?_,g2⟩
  ·simp only[execOp,dC,Instr.next,getObj,setObj,Sem.run_bind,Sem.run,iN,Result.andThen]
   simp[hb,Sem.run,iN,goInt]
  ·cases dst with
   | none=>exact g1
   | some d=>exact g1.set (hd d rfl) ⟨_,rfl,⟨_,_,rfl,rfl,_,_,rfl,rfl,_,_,rfl,rfl,rfl⟩⟩
 ·have hb:=of_decide_eq_false hb
  refine⟨_,hk,bI (o:=⟨dst,.next x true,ty,pos,after,guard⟩) fun cx r m L F st a w he hh hg=>?_⟩;have dC:a.eval x = .pointer (some ⟨L.ρ id,0,none⟩):=hg.aS (aF he hx);have iN:w.heap[L.ρ id]?=some (.stringIter s p):=hg.heap.obj id _ (hh _ _ hs);refine⟨_,?_,⟨_,rfl,⟨_,_,rfl,rfl,rfl⟩⟩⟩;simp only[execOp,dC,Instr.next,getObj,Sem.run_bind,Sem.run,iN,Result.andThen];simp[hb,Sem.run]
theorem Eh{t:TypeId}{x:Option Operand}(hk:gL T e h dst (.makeMap t x) K):∃ ws,K ws/\Out P e h ⟨dst,.makeMap t x,ty,pos,after,guard⟩ ws:=by
 simp only[gL]at hk;split at hk;case h_2=>exact hk.elim
 rename_i d;refine⟨_,hk,?_⟩;intro σ cx r m L F st a w he hh hg hd;have tr:Tr F w F (w.alloc (.map #[] 0)):=Tr.alloc hg.heap.fresh _;have te:=hg.new d 0 (.map []) (.map #[] 0) (hg.fy (hd d rfl)) ⟨#[],0,by show(w.alloc _).heap[if d=d then w.heap.size else L.ρ d]?=_;rw[if_pos rfl];exact heap_alloc_new w _,rfl,rfl,by intro i e h;simp at h⟩;refine⟨.map (some w.heap.size),_,_,?_,.inl rfl,_,F,te.set (v:=.mp d) (hd d rfl) (by show Value.map _=Value.map _;simp),tr⟩;simp[execOp,Instr.makeMap]
inductive Pj(P:Program)(T:e7)(kt:TypeId)(k:D):Prop where
 | plain (dk:TypeDesc) (hk:P.underlying kt=some dk) (BU:(∃ k,dk = .int k)\/dk = .string\/dk = .bool) (wI:tq T kt (jM dk) k=true)
 | wide (dk:TypeDesc) (cs:List D) (n:Nat) (hk:P.underlying kt=some dk) (pd:∃ ti,T.get kt=some ti/\ti.isAgg=true) (BU:∀ x y,Instr.sameNow dk x y=none) (hc:k = .agg cs) (hf:flat T 9 kt=some n) (hl:cs.length=n) (hi:qQ T 9 kt cs=true)
theorem wO(hT:bA P T){t kt:TypeId}{ki ei:rE}(h:mapOf T t=some (kt,(ki,ei))):∃ el,P.underlying t=some (.map kt el)/\T.get kt=some ki/\T.get el=some ei:=by
 unfold mapOf at h;split at h;case h_2=>cases h
 rename_i ti ht;split at h;case h_2=>cases h
 rename_i kt el eP;obtain⟨de,gP,eI⟩:=fp hT ht;rw[eP]at eI;have:=tp eI.symm;subst this;split at h;case h_2=>cases h
 rename_i ki' ei' Nn jS;cases h;exact⟨el,gP,Nn,jS⟩
theorem B6(hT:bA P T){kt:TypeId}{ki:rE}(Nn:T.get kt=some ki){k:D}(h:tq T kt ki.kd k=true):Pj P T kt k:=by
 obtain⟨i,dk,hi,BU,_,_,gu,pd,_⟩:=hT kt ki Nn
 cases eP:ki.kd with
 | int q=>
  have:=nz (gu.symm.trans eP);subst this;exact .plain _ BU (.inl ⟨_,rfl⟩) (by rw[eP]at h;exact h)
 | str=>
  have:=jo (gu.symm.trans eP);subst this;exact .plain _ BU (.inr (.inl rfl)) (by rw[eP]at h;exact h)
 | bool=>
  have:=qC (gu.symm.trans eP);subst this;exact .plain _ BU (.inr (.inr rfl)) (by rw[eP]at h;exact h)
 | struct fs=>
  rw[eP]at h;obtain⟨fa,rfl,_⟩:=jc (gu.symm.trans eP);cases k<;>simp only[tq]at h<;>try (cases h;done)
  split at h;case h_2=>cases h
  rename_i n hn;simp only[Bool.and_eq_true]at h;exact .wide _ _ n BU ⟨ki,Nn,pd⟩ (fun x y=>by cases x<;>cases y<;>rfl) rfl hn (er h.1) h.2
 | array m e=>
  rw[eP]at h;have:=gi (gu.symm.trans eP);subst this;cases k<;>simp only[tq]at h<;>try (cases h;done)
  split at h;case h_2=>cases h
  rename_i n hn;simp only[Bool.and_eq_true]at h;exact .wide _ _ n BU ⟨ki,Nn,pd⟩ (fun x y=>by cases x<;>cases y<;>rfl) rfl hn (er h.1) h.2
 | _=>rw[eP]at h;cases k<;>simp only[tq]at h<;>cases h
theorem Kp(a b:ByteArray):(a ==b)=decide (a=b):=by
 have h:(a ==b)=(a.data ==b.data):=by cases a;cases b;rfl
 rw[h];by_cases CG:a=b
 ·subst CG;simp
 ·have:a.data≠b.data:=fun e=>CG (by cases a;cases b;simp only at e;rw[e])
  simp[CG,this]
theorem O2{F:Nat->Nat}{w:World}{kt:TypeId}{dk:TypeDesc}(BU:(∃ k,dk = .int k)\/dk = .string\/dk = .bool){k:D}{x:Value}(hx:bM F w k x)(wI:tq T kt (jM dk) k=true)(k':D)(y:Value)(r:Bool)(h:fR k k'=some r)(hy:bM F w k' y):Instr.sameNow dk x y=some r:=by
 cases k<;>cases k'<;>simp only[fR]at h<;>try (cases h;done)
 ·cases hx;cases hy
  cases h;rcases BU with⟨_,rfl⟩|rfl|rfl<;>simp[tq,jM]at wI
  rfl
 ·cases hx;cases hy
  rename_i k1 a k2 b;split at h
  ·rename_i he
   have he:=of_decide_eq_true he;cases h;rcases BU with⟨_,rfl⟩|rfl|rfl<;>simp[tq,jM]at wI
   simp[Instr.sameNow,he];rfl
  ·cases h
 ·cases hx;cases hy
  cases h;rcases BU with⟨_,rfl⟩|rfl|rfl<;>simp[tq,jM]at wI
  show some (_ ==_)=_;rename_i a b
  congr 1
  exact Kp _ _
 ·rcases BU with⟨_,rfl⟩|rfl|rfl<;>simp[tq,jM]at wI
def Found(F:Nat->Nat)(w:World)(k:D)(es:List MapEntry)(n:Nat)(r:Option (Nat×D))(q:Option (Nat×Value)):Prop:=
 match r,q with
 | none,none=>True
 | some (i,v),some (j,u)=>i=j/\bM F w v u/\n<=i/\i<n+es.length /\ ∃ en,es[i-n]?=some en /\ ∃ kk,bM F w kk en.key/\fR k kk=some true
 | _,_=>False
theorem Ar{F:Nat->Nat}{w:World}{kd:TypeDesc}{k:D}{x:Value}(hx:bM F w k x)(nu:∀ (k':D) (y:Value) (r:Bool),fR k k'=some r->bM F w k' y->Instr.sameNow kd x y=some r) :
  ∀ {cJ:List (D×D)} {es:List MapEntry} {n:Nat} {r:Option (Nat×D)},findD k cJ n=some r->bW F w cJ es ->
   ∃ q,Instr.findNow kd x es n=some q/\Found F w k es n r q
 | [],es,n,r,h,hr=>by
  have hr:es = []:=hr;subst hr;simp only[findD,Option.some.injEq]at h;subst h;exact⟨none,rfl,trivial⟩
 | (k',v)::kr,es,n,r,h,hr=>by
  obtain⟨en,es',rfl,hk,hv,hr⟩:=hr;simp only[findD]at h;split at h
  ·rename_i hs
   cases h;refine⟨some (n,en.val),?_,rfl,hv,Nat.le_refl _,by simp,en,by simp,k',hk,hs⟩;simp only[Instr.findNow,nu k' en.key true hs hk]
  ·rename_i hs
   obtain⟨q,h1,h2⟩:=Ar hx nu h hr;refine⟨q,?_,?_⟩
   ·simp only[Instr.findNow,nu k' en.key false hs hk];exact h1
   ·match r,q,h2 with
    | none,none,_=>trivial
    | some (i,v),some (j,u),⟨p1,p2,p3,p4,en',p5,p6⟩=>
     refine⟨p1,p2,by omega,by simp;omega,en',?_,p6⟩;have:i-n=(i-(n+1))+1:=by omega
     rw[this,List.getElem?_cons_succ];exact p5
  ·cases h
theorem Ap{F:Nat->Nat}{w:World}{kt:TypeId}{k:D}{x:Value}(hx:bM F w k x)(nu:∀ (k':D) (y:Value) (r:Bool),fR k k'=some r->bM F w k' y->(Op.equal kt x y).run P w = .ok r w) :
  ∀ {cJ:List (D×D)} {es:List MapEntry} {n:Nat} {r:Option (Nat×D)},findD k cJ n=some r->bW F w cJ es ->
   ∃ q,(Instr.findAsking kt x es n).run P w = .ok q w/\Found F w k es n r q
 | [],es,n,r,h,hr=>by
  have hr:es = []:=hr;subst hr;simp only[findD,Option.some.injEq]at h;subst h;exact⟨none,by simp[Instr.findAsking],trivial⟩
 | (k',v)::kr,es,n,r,h,hr=>by
  obtain⟨en,es',rfl,hk,hv,hr⟩:=hr;simp only[findD]at h;split at h
  ·rename_i hs
   cases h;refine⟨some (n,en.val),?_,rfl,hv,Nat.le_refl _,by simp,en,by simp,k',hk,hs⟩;simp[Instr.findAsking,nu k' en.key true hs hk]
  ·rename_i hs
   obtain⟨q,h1,h2⟩:=Ap hx nu h hr;refine⟨q,?_,?_⟩
   ·simp[Instr.findAsking,nu k' en.key false hs hk,h1]
   ·match r,q,h2 with
    | none,none,_=>trivial
    | some (i,v),some (j,u),⟨p1,p2,p3,p4,en',p5,p6⟩=>
     refine⟨p1,p2,by omega,by simp;omega,en',?_,p6⟩;have:i-n=(i-(n+1))+1:=by omega
     rw[this,List.getElem?_cons_succ];exact p5
  ·cases h
theorem uT:∀ {a b c d:List D},cQ a b=some true->cQ c d=some true->cQ (a++c) (b++d)=some true
 | [],[],_,_,_,h=>h
 | [],_::_,_,_,h,_=>by simp[cQ]at h
 | _::_,[],_,_,h,_=>by simp[cQ]at h
 | x::a,y::b,c,d,h,k=>by
  simp only[cQ]at h;split at h;case h_2=>cases h
  rename_i p q hp hq;simp only[Option.some.injEq,Bool.and_eq_true]at h;obtain⟨rfl,rfl⟩:=h;simp[cQ,hp,uT hq k]
theorem Aw{T:e7}:∀ (d:Nat) (t:TypeId) (n:Nat),flat T d t=some n -> ∃ ti,T.get t=some ti/\ti.size=n
 | 0,_,_,h=>by simp[flat]at h
 | d+1,t,n,h=>by
  simp only[flat]at h;split at h
  ·cases h
  rename_i ti ic;refine⟨ti,ic,?_⟩;split at h
  ·split at h
   ·rename_i hs;cases h;exact Nat.eq_of_beq_eq_true hs
   ·cases h
  ·split at h
   ·rename_i hs;cases h;exact Nat.eq_of_beq_eq_true hs
   ·cases h
  ·split at h
   ·rename_i hs;cases h;exact Nat.eq_of_beq_eq_true hs
   ·cases h
  ·split at h
   ·split at h
    ·rename_i hs;cases h;exact Nat.eq_of_beq_eq_true hs
    ·cases h
   ·cases h
  ·split at h
   ·split at h
    ·rename_i hs;cases h;exact Nat.eq_of_beq_eq_true hs
    ·cases h
   ·cases h
  ·cases h
theorem xM{T:e7}{f:TypeId->Option Nat}{g:TypeId->List D->Bool}(hf:∀ t c xs,f t=some c->(∃ ti,T.get t=some ti/\ti.size=c)/\(xs.length=c->g t xs=true->cQ xs xs=some true)):∀ (fs:List (Nat×TypeId)) (n m:Nat) (xs:List D),pL f fs n=some m->xs.length=m->Au T g fs xs=true->n<=m/\cQ (xs.drop n) (xs.drop n)=some true
 | [],n,m,xs,h,hl,_=>by
  simp only[pL,Option.some.injEq]at h;subst h;rw[List.drop_eq_nil_of_le (by omega)];exact⟨Nat.le_refl _,rfl⟩
 | (off,t)::r,n,m,xs,h,hl,hk=>by
  simp only[pL]at h;split at h;case h_2=>cases h
  rename_i c pU hc;have pU:=Nat.eq_of_beq_eq_true pU;subst pU;obtain⟨⟨ti,ic,dc⟩,_⟩:=hf t (c+1) xs hc;simp only[Au,ic]at hk;split at hk;case h_2=>cases hk
  rename_i eI;obtain⟨h1,h2⟩:=xM hf r _ m xs h hl hk;rw[dc]at eI;have h3:=(hf t (c+1) ((xs.drop off).take (c+1)) hc).2 (by simp;omega) eI;refine⟨by omega,?_⟩;have h4:=uT h3 h2
  rwa [<- List.drop_drop,List.take_append_drop]at h4
theorem xN{g:List D->Bool}{c:Nat}(hg:∀ xs:List D,xs.length=c->g xs=true->cQ xs xs=some true):∀ (n:Nat) (xs:List D),xs.length=n*c->Av g c n xs=true->cQ xs xs=some true
 | 0,xs,hl,_=>by
  have:xs = []:=List.length_eq_zero_iff.1 (by simpa using hl);subst this;rfl
 | n+1,xs,hl,hk=>by
  rw[Nat.succ_mul]at hl;simp only[Av]at hk;split at hk;case h_2=>cases hk
  rename_i eI;have h1:=hg (xs.take c) (by simp;omega) eI;have h2:=xN hg n (xs.drop c) (by simp;omega) hk;have h3:=uT h1 h2
  rwa [List.take_append_drop]at h3
theorem xO{T:e7}:∀ (d:Nat) (t:TypeId) (xs:List D) (n:Nat),flat T d t=some n->xs.length=n->qQ T d t xs=true->cQ xs xs=some true
 | 0,_,_,_,h,_,_=>by simp[flat]at h
 | d+1,t,xs,n,h,hl,hk=>by
  simp only[flat]at h;split at h
  ·cases h
  rename_i ti ic;simp only[qQ,ic]at hk;split at h
  ·rename_i eP
   simp only[eP]at hk;split at hk
   ·simp[cQ,nK]
   ·cases hk
  ·rename_i eP
   simp only[eP]at hk;split at hk
   ·simp[cQ,nK]
   ·cases hk
  ·rename_i eP
   simp only[eP]at hk;split at hk
   ·simp[cQ,nK,vO]
   ·cases hk
  ·rename_i fs eP
   simp only[eP]at hk;split at h;case h_2=>cases h
   rename_i m _ hm;split at h;case h_2=>cases h
   cases h;have:=(xM (T:=T) (f:=fun t=>flat T d t) (g:=fun t xs=>qQ T d t xs) (fun t c xs hc=>⟨Aw d t c hc,fun hl hk=>xO d t xs c hc hl hk⟩) fs 0 _ xs hm hl hk).2;simpa using this
  ·rename_i m e eP
   simp only[eP]at hk;split at h;case h_2=>cases h
   rename_i c hc;split at h;case h_2=>cases h
   cases h;obtain⟨ei,jS,fe⟩:=Aw d e (c+1) hc;simp only[jS,fe]at hk;exact xN (fun xs hl hk=>xO d e xs _ hc hl hk) m xs hl hk
  ·cases h
theorem mC(hT:bA P T){F:Nat->Nat}{w:World}{kt:TypeId}{k:D}{x:Value}(ho:Pj P T kt k)(hx:bM F w k x){cJ:List (D×D)}{es:List MapEntry}{r:Option (Nat×D)}(hf:findD k cJ 0=some r)(hr:bW F w cJ es) :
  (∀ b,(Instr.checkKey b 10000 kt x).run P w = .ok () w) /\ ∃ q,(Instr.findKey kt x es).run P w = .ok q w/\Found F w k es 0 r q:=by
 cases ho with
 | plain dk hk BU wI=>
  obtain⟨q,hq,hm⟩:=Ar hx (O2 BU hx wI) hf hr;refine⟨fun b=>?_,q,by simp[Instr.findKey,run_underlying hk,hq],hm⟩;rw[show(10000:Nat)=9999+1 from rfl];unfold Instr.checkKey;rcases BU with⟨k,rfl⟩|rfl|rfl<;>simp[run_underlying hk]
 | wide dk cs n hk pd BU hc v8 hl hi=>
  subst hc;obtain⟨lx,rfl,ss⟩:=hx;obtain⟨ti,ic,pd⟩:=pd;have th:∀ (zs:List D) (l:Array Value),bc F w zs l.toList->px T F w kt zs (.agg l):=fun zs l hl ti' yp=>by
   rw[ic]at yp;cases yp;rw[pd];exact⟨l,rfl,hl⟩
  have nT:∀ N,9<=N->Bs P T F w N 9 kt n:=fun N hN=>rM hT 9 kt n v8 N hN;refine⟨fun b=>((nT 10000 (by decide)).2 cs cs true hl hi (xO 9 kt cs n v8 hl hi) _ _ (th _ _ ss) (th _ _ ss)).2 b,?_⟩;have nu:∀ (k':D) (y:Value) (r:Bool),fR (.agg cs) k'=some r->bM F w k' y->(Op.equal kt (.agg lx) y).run P w = .ok r w:=by
   intro k' y r hs hy;cases k'<;>simp only[fR]at hs<;>try (cases hs;done)
   obtain⟨ly,rfl,uE⟩:=hy;exact((nT Op.maxDepth (by decide)).2 cs _ r hl hi hs _ _ (th _ _ ss) (th _ _ uE)).1
  obtain⟨q,hq,hm⟩:=Ap (P:=P) (kt:=kt) (k:=.agg cs) (x:=.agg lx) ⟨lx,rfl,ss⟩ nu hf hr
  cases fe:es with
  | nil=>
   subst fe;have:cJ = []:=by
    cases cJ with
    | nil=>rfl
    | cons p r=>obtain⟨_,_,h,_⟩:=hr;cases h
   subst this;simp only[findD,Option.some.injEq]at hf;subst hf;exact⟨none,by simp[Instr.findKey,run_underlying hk,Instr.findNow],trivial⟩
  | cons en es'=>
   rw[<- fe];refine⟨q,?_,hm⟩;have:Instr.findNow dk (.agg lx) es 0=none:=by rw[fe];simp[Instr.findNow,BU]
   simp[Instr.findKey,run_underlying hk,this,hq]
theorem wX{F:Nat->Nat}{w:World}(hT:bA P T){el:TypeId}{ei:rE}(jS:T.get el=some ei){z:D}(hz:Bl ei=some z):∃ zv,(zeroValue el).run P w = .ok zv w/\bM F w z zv:=by
 obtain⟨i,d,hi,hd,_,_,_,_,_,FO⟩:=hT el ei jS;unfold Bl at hz;split at hz
 ·rename_i l hl ha
  cases hz;obtain⟨zv,I2,zM,pd⟩:=FO _ hl;refine⟨zv,by simp[zeroValue,typeInfo,hi,I2],?_⟩;rw[ha]at pd;unfold zeroCells at zM;unfold Ik at pd;split at pd
  ·rename_i l' ho
   rw[ho]at zM;cases zM;exact nX ho
  ·cases pd
 ·rename_i l hl ha
  cases hz;obtain⟨zv,I2,zM,pd⟩:=FO _ hl;refine⟨zv,by simp[zeroValue,typeInfo,hi,I2],?_⟩;rw[ha]at pd;unfold zeroCells at zM;unfold Ik at pd;split at zM
  ·rename_i l' ho;rw[ho]at pd;cases pd
  ·cases zM
  ·rename_i v _ _ ho
   cases zM;exact nX ho
  ·cases zM
 ·cases hz
theorem yX{d:TypeDesc}(h:Ck (jM d)=true):∀ ms,d ≠ .interface ms:=by
 rintro ms rfl;cases h
theorem tL(hT:bA P T){t:TypeId}{x:Operand}(hk:gL T e h dst (.makeInterface t x) K):∃ ws,K ws/\Out P e h ⟨dst,.makeInterface t x,ty,pos,after,guard⟩ ws:=by
 simp only[gL]at hk;split at hk;case h_2=>exact hk.elim
 rename_i ti v ht hx;obtain⟨hp,hk⟩:=ca hk;obtain⟨de,gP,eI⟩:=fp hT ht;rw[eI]at hp;have PY:=yX hp;refine⟨_,hk,bI (v:=.d (.ifc t v)) (o:=⟨dst,.makeInterface t x,ty,pos,after,guard⟩) fun cx r m L F st a w he hh hg=>⟨.iface t (a.eval x),?_,⟨_,rfl,hg.aS (aF he hx)⟩⟩⟩;cases de<;>first|exact absurd rfl (PY _)|simp[execOp,Instr.makeInterface,run_underlying gP]
theorem uK{yv:Option Nat}{L:Loc}{F:Nat->Nat}{w:World}{c b:Bool}{v:D}{x:Value}(h:bM F w v x):bg yv L F w (rk c v b) (if c=true then .tuple #[x,.bool b] else x):=by
 cases c
 ·exact h
 ·exact⟨_,rfl,_,_,rfl,h,_,_,rfl,rfl,rfl⟩
theorem yT(hT:bA P T){x:Operand}{xt at':TypeId}{c:Bool}(hk:gL T e h dst (.typeAssert x xt at' c) K):∃ ws,K ws/\Out P e h ⟨dst,.typeAssert x xt at' c,ty,pos,after,guard⟩ ws:=by
 simp only[gL]at hk;split at hk;case h_3=>exact hk.elim
 ·rename_i ti t v ht hx
  obtain⟨hp,gu⟩:=ca hk;clear hk;obtain⟨de,gP,eI⟩:=fp hT ht;rw[eI]at hp;have PY:=yX hp;split at gu
  ·rename_i qB
   have:=Nat.eq_of_beq_eq_true qB;subst this;refine⟨_,gu,bI (v:=rk c v true) (o:=⟨dst,.typeAssert x xt t c,ty,pos,after,guard⟩) fun cx r m L F st a w he hh hg=>?_⟩;obtain⟨y,hy,hr⟩:=hg.aS (aF he hx);refine⟨if c=true then .tuple #[y,.bool true] else y,?_,uK hr⟩;cases de<;>first|exact absurd rfl (PY _)|simp[execOp,Instr.typeAssert,run_underlying gP,hy]
  ·rename_i qB
   have eW:t≠at':=by rintro rfl;simp at qB
   split at gu;case h_2=>exact gu.elim
   rename_i _ _ z hz;refine⟨_,gu,bI (v:=rk true z false) (o:=⟨dst,.typeAssert x xt at' true,ty,pos,after,guard⟩) fun cx r m L F st a w he hh hg=>?_⟩;obtain⟨y,hy,hr⟩:=hg.aS (aF he hx);obtain⟨zv,HH,P9⟩:=wX (F:=F) (w:=w) hT ht hz;refine⟨.tuple #[zv,.bool false],?_,uK (c:=true) P9⟩;cases de<;>first|exact absurd rfl (PY _)|simp[execOp,Instr.typeAssert,run_underlying gP,hy,eW,HH]
 ·rename_i ti ht hx
  obtain⟨hp,gu⟩:=ca hk;clear hk;obtain⟨de,gP,eI⟩:=fp hT ht;rw[eI]at hp;have PY:=yX hp;split at gu;case h_2=>exact gu.elim
  rename_i _ _ z hz;refine⟨_,gu,bI (v:=rk true z false) (o:=⟨dst,.typeAssert x xt at' true,ty,pos,after,guard⟩) fun cx r m L F st a w he hh hg=>?_⟩;have hy:a.eval x = .nilIface:=hg.aS (aF he hx);obtain⟨zv,HH,P9⟩:=wX (F:=F) (w:=w) hT ht hz;refine⟨.tuple #[zv,.bool false],?_,uK (c:=true) P9⟩;cases de<;>first|exact absurd rfl (PY _)|simp[execOp,Instr.typeAssert,run_underlying gP,hy,HH]
theorem Gh(hT:bA P T){t:TypeId}{x i:Operand}{c:Bool}(hk:gL T e h dst (.lookup t x i c) K):∃ ws,K ws/\Out P e h ⟨dst,.lookup t x i c,ty,pos,after,guard⟩ ws:=by
 simp only[gL]at hk;split at hk;case h_2=>exact hk.elim
 rename_i kt ki ei cJ k hm zw hi;obtain⟨N8,⟨r,hf,hk⟩⟩:=ca hk;obtain⟨el,h1,h3,h5⟩:=wO hT hm;have Lq:=B6 hT h3 N8;have qT:∀ {σ:Type} (cx:Cx σ) (r:Option Nat) (m:List Nat) (L:Loc) (F:Nat->Nat) (st:St σ) (a:Act) (w:World),dB e st.env->dB h st.heap->Good cx r m L F st a w ->
   ∃ es:List MapEntry,bW F w cJ es/\((a.eval x = .map none/\es = []) \/ ∃ b en cl,a.eval x = .map (some b)/\w.heap[b]?=some (.map en cl)/\en.toList=es):=by
  intro σ cx r m L F st a w he hh hg;unfold Qb at zw;split at zw
  ·rename_i tu hx
   cases zw;obtain⟨b,en,cl,dC,hF,hb,hr⟩:=hg.aS (aF he hx);exact⟨en.toList,hr,.inr ⟨b,en,cl,dC,hb,rfl⟩⟩
  ·rename_i hx
   cases zw;exact⟨[],rfl,.inl ⟨hg.aS (aF he hx),rfl⟩⟩
  ·rename_i id hx
   split at zw;case h_2=>cases zw
   rename_i tu ho;cases zw;obtain⟨en,cl,hb,hr,_⟩:=hg.heap.obj id _ (hh _ _ ho);exact⟨en.toList,hr,.inr ⟨_,en,cl,hg.aS (aF he hx),hb,rfl⟩⟩
  ·cases zw
 have bN:∀ {a:Act} {w:World} {es:List MapEntry} {q:Option (Nat×Value)},(∀ b,(Instr.checkKey b 10000 kt (a.eval i)).run P w = .ok () w)->(Instr.findKey kt (a.eval i) es).run P w = .ok q w->((a.eval x = .map none/\es = []) \/ ∃ b en cl,a.eval x = .map (some b)/\w.heap[b]?=some (.map en cl)/\en.toList=es) ->
   ∀ v ok,((∃ n,q=some (n,v))/\ok=true)\/(q=none/\ok=false/\(zeroValue el).run P w = .ok v w)->(Instr.lookup t (a.eval x) (a.eval i) c).run P w = .ok (if c then .tuple #[v,.bool ok] else v) w:=by
  intro a w es q nT hq hx v ok hv;rcases hx with⟨hx,rfl⟩|⟨b,en,cl,hx,hb,rfl⟩
  ·have HA:(Instr.findKey kt (a.eval i) (#[]:Array MapEntry).toList).run P w = .ok q w:=hq
   rcases hv with⟨⟨n,rfl⟩,rfl⟩|⟨rfl,rfl,hz⟩
   ·simp[Instr.lookup,run_underlying h1,hx,nT,HA]
   ·simp[Instr.lookup,run_underlying h1,hx,nT,HA,hz]
  ·rcases hv with⟨⟨n,rfl⟩,rfl⟩|⟨rfl,rfl,hz⟩
   ·simp[Instr.lookup,run_underlying h1,hx,nT,hq,getObj,Sem.run,hb]
   ·simp[Instr.lookup,run_underlying h1,hx,nT,hq,getObj,Sem.run,hb,hz]
 have PV:∀ {F:Nat->Nat} {w:World} {yv:Option Nat} {L:Loc} {v:D} {u:Value} {ok:Bool},bM F w v u->bg yv L F w (rk c v ok) (if c then .tuple #[u,.bool ok] else u):=by
  intro F w yv L v u ok hv;cases c
  ·exact hv
  ·exact⟨_,rfl,_,_,rfl,hv,_,_,rfl,rfl,rfl⟩
 cases r with
 | some nv=>
  obtain⟨n,v⟩:=nv;refine⟨_,hk,bI (o:=⟨dst,.lookup t x i c,ty,pos,after,guard⟩) fun cx r m L F st a w he hh hg=>?_⟩;obtain⟨es,hr,hx⟩:=qT cx r m L F st a w he hh hg;have rh:bM F w k (a.eval i):=hg.aS (aF he hi);obtain⟨nT,q,hq,hm⟩:=mC hT Lq rh hf hr
  cases q with
  | none=>exact hm.elim
  | some ju=>
   obtain⟨j,u⟩:=ju;obtain⟨rfl,hv,_⟩:=hm;exact⟨_,by simp[execOp,bN nT hq hx u true (.inl ⟨⟨n,rfl⟩,rfl⟩)],PV hv⟩
 | none=>
  simp only at hk;split at hk;case h_2=>exact hk.elim
  rename_i z hz;refine⟨_,hk,bI (o:=⟨dst,.lookup t x i c,ty,pos,after,guard⟩) fun cx r m L F st a w he hh hg=>?_⟩;obtain⟨es,hr,hx⟩:=qT cx r m L F st a w he hh hg;have rh:bM F w k (a.eval i):=hg.aS (aF he hi);obtain⟨nT,q,hq,hm⟩:=mC hT Lq rh hf hr
  cases q with
  | some ju=>exact hm.elim
  | none=>
   obtain⟨zv,HH,P9⟩:=wX (F:=F) (w:=w) hT h5 hz;exact⟨_,by simp[execOp,bN nT hq hx zv false (.inr ⟨rfl,rfl,HH⟩)],PV P9⟩
theorem bW.set{F:Nat->Nat}{w:World}{k v:D}{x y:Value}(hk:bM F w k x)(hv:bM F w v y):∀ {cJ:List (D×D)} {es:List MapEntry} (n:Nat),bW F w cJ es->bW F w (cJ.set n (k,v)) (es.modify n fun e=>{ e with key:=x,val:=y })
 | [],es,n,h=>by rw[show es = [] from h];cases n<;>rfl
 | (k',v')::r,es,0,h=>by
  obtain⟨en,es',rfl,_,_,hr⟩:=h;exact⟨{ en with key:=x,val:=y },es',by simp,hk,hv,hr⟩
 | (k',v')::r,es,n+1,h=>by
  obtain⟨en,es',rfl,h1,h2,hr⟩:=h;exact⟨en,es'.modify n fun e=>{ e with key:=x,val:=y },by simp,h1,h2,bW.set hk hv n hr⟩
theorem bW.push{F:Nat->Nat}{w:World}{k v:D}{x y:Value}{b:Nat}(hk:bM F w k x)(hv:bM F w v y):∀ {cJ:List (D×D)} {es:List MapEntry},bW F w cJ es->bW F w (cJ ++ [(k,v)]) (es ++ [{ key:=x,val:=y,born:=b }])
 | [],es,h=>by rw[show es = [] from h];exact⟨_,[],rfl,hk,hv,rfl⟩
 | (k',v')::r,es,h=>by
  obtain⟨en,es',rfl,h1,h2,hr⟩:=h;exact⟨en,es' ++ [{ key:=x,val:=y,born:=b }],by simp,h1,h2,bW.push hk hv hr⟩
theorem Gv{F:Nat->Nat}{w:World}{n:Nat}{a:D}{x y:Value}(h:nK a a=some true)(hx:bM F w a x)(hy:bM F w a y):x=y/\Instr.sameBits (n+1) x y=true:=by
 cases a<;>simp only[nK]at h<;>try (cases h;done)
 ·cases hx;cases hy;exact⟨rfl,by simp[Instr.sameBits]⟩
 ·cases hx;cases hy;exact⟨rfl,by simp[Instr.sameBits]⟩
 ·rename_i t v
  obtain⟨x1,rfl,h1⟩:=hx;obtain⟨y1,rfl,h2⟩:=hy;cases v<;>simp[vO]at h
  cases h1;cases h2
  exact⟨rfl,by cases n<;>simp[Instr.sameBits]⟩
theorem Ac{F:Nat->Nat}{w:World}{n:Nat}:∀ {cs:List D} {l m:List Value},cQ cs cs=some true->bc F w cs l->bc F w cs m->l=m/\(l.zip m).all (fun(x,y)=>Instr.sameBits (n+1) x y)=true
 | [],l,m,_,hl,hm=>by
  have hl:l = []:=hl;have hm:m = []:=hm;subst hl hm;exact⟨rfl,rfl⟩
 | c::cs,l,m,hi,hl,hm=>by
  obtain⟨x,l',rfl,hx,hl⟩:=hl;obtain⟨y,m',rfl,hy,hm⟩:=hm;simp only[cQ]at hi;split at hi;case h_2=>cases hi
  rename_i p q hp hq;simp only[Option.some.injEq,Bool.and_eq_true]at hi;obtain⟨rfl,rfl⟩:=hi;obtain⟨h1,h2⟩:=Ac (n:=n) (cs:=cs) hq hl hm;obtain⟨h3,h4⟩:=Gv (n:=n) hp hx hy;exact⟨by rw[h1,h3],by simp only[List.zip_cons_cons,List.all_cons,h2,h4,Bool.and_true]⟩
theorem uW{F:Nat->Nat}{w:World}{k k':D}{x y:Value}(hx:bM F w k x)(hy:bM F w k' y)(h:fR k k'=some true):Instr.sameBits 10000 y x=true:=by
 cases k<;>cases k'<;>simp only[fR]at h<;>try (cases h;done)
 ·cases hx;cases hy
  rename_i a b;have h:=Option.some.inj h;show(b ==a)=true;cases a<;>cases b<;>simp_all
 ·cases hx;cases hy
  rename_i k1 a k2 b;split at h
  ·rename_i he
   have he:=of_decide_eq_true he;have h:=of_decide_eq_true (Option.some.inj h);subst he;subst h;simp[Instr.sameBits]
  ·cases h
 ·cases hx;cases hy
  have h:=of_decide_eq_true (Option.some.inj h);subst h;show(_ ==_)=true;rw[Kp];simp
 ·obtain⟨lx,rfl,ss⟩:=hx
  obtain⟨ly,rfl,uE⟩:=hy;have h1:=zd h;subst h1;obtain⟨e,hb⟩:=Ac (n:=9998) h uE ss;have:ly=lx:=Array.ext' e;subst this;rw[show(10000:Nat)=9999+1 from rfl];unfold Instr.sameBits;rw[Bool.and_eq_true];exact⟨by simp,hb⟩
theorem bW.qn{F:Nat->Nat}{w:World}{k:D}{x:Value}(hk:bM F w k x):∀ {cJ:List (D×D)} {es:List MapEntry} (n:Nat),bW F w cJ es->bW F w (qn cJ n k) (es.modify n fun e=>{ e with key:=x })
 | [],es,n,h=>by rw[show es = [] from h];cases n<;>rfl
 | (k',v')::r,es,0,h=>by
  obtain⟨en,es',rfl,_,hv,hr⟩:=h;exact⟨{ en with key:=x },es',by simp,hk,hv,hr⟩
 | (k',v')::r,es,n+1,h=>by
  obtain⟨en,es',rfl,h1,h2,hr⟩:=h;exact⟨en,es'.modify n fun e=>{ e with key:=x },by simp,h1,h2,bW.qn hk n hr⟩
theorem bW.l7{F:Nat->Nat}{w:World}{v:D}{x:Value}(hk:bM F w v x):∀ {cJ:List (D×D)} {es:List MapEntry} (n:Nat),bW F w cJ es->bW F w (l7 cJ n v) (es.modify n fun e=>{ e with val:=x })
 | [],es,n,h=>by rw[show es = [] from h];cases n<;>rfl
 | (k',v')::r,es,0,h=>by
  obtain⟨en,es',rfl,jj,_,hr⟩:=h;exact⟨{ en with val:=x },es',by simp,jj,hk,hr⟩
 | (k',v')::r,es,n+1,h=>by
  obtain⟨en,es',rfl,h1,h2,hr⟩:=h;exact⟨en,es'.modify n fun e=>{ e with val:=x },by simp,h1,h2,bW.l7 hk n hr⟩
theorem sA.modify{en:Array MapEntry}{c:Nat}(h:sA en c){f:MapEntry->MapEntry}(hf:∀ e,(f e).born=e.born)(n:Nat):sA (en.modify n f) c:=by
 refine⟨by simpa using h.1,fun i e he=>?_⟩;rw[Array.getElem?_modify]at he;split at he
 ·obtain⟨e',Lf,rfl⟩:=Option.map_eq_some_iff.1 he
  rw[hf];exact h.2 i e' Lf
 ·exact h.2 i e he
theorem sA.push{en:Array MapEntry}{c:Nat}(h:sA en c)(k v:Value):sA (en.push { key:=k,val:=v,born:=c }) (c+1):=by
 refine⟨by simp[h.1],fun i e he=>?_⟩;rw[Array.getElem?_push]at he;split at he
 ·rename_i hi
  cases he;rw[hi];exact h.1
 ·exact h.2 i e he
theorem tA{σ:Type}{cx:Cx σ}{r:Option Nat}{m:List Nat}{L:Loc}{F:Nat->Nat}{st:St σ}{a:Act}{w:World}(hg:Good cx r m L F st a w){id:Nat}{cJ tu:List (D×D)}(h0:get st.heap id=some (.map cJ)){en en':Array MapEntry}{cl cl':Nat}(hb:w.heap[L.ρ id]?=some (.map en cl))
  (hr:bW F w tu en'.toList) (qR:sA en' cl') :
  Good cx r m L F (bP st (.obj id (.map tu))) a { w with heap:=w.heap.setIfInBounds (L.ρ id) (.map en' cl') }/\Tr F w F { w with heap:=w.heap.setIfInBounds (L.ρ id) (.map en' cl') }:=by
 have dN:=(Array.getElem?_eq_some_iff.1 hb).1;have hF:=(hg.heap.own id _ h0 trivial).1;have im:∀ z,z≠L.ρ id->({ w with heap:=w.heap.setIfInBounds (L.ρ id) (.map en' cl') }:World).heap[z]?=w.heap[z]?:=fun z hz=>by simp[Array.getElem?_setIfInBounds_ne (Ne.symm hz)]
 have tr:Tr F w F { w with heap:=w.heap.setIfInBounds (L.ρ id) (.map en' cl') }:=
  .iI rfl rfl rfl (by simp) (fun _=>Nat.le_refl _) hg.heap.fresh fun b _ YO=>im b (by rintro rfl;omega)
 exact hg.obj (o:=.map tu) h0 trivial (w':={ w with heap:=w.heap.setIfInBounds (L.ρ id) (.map en' cl') }) rfl rfl rfl (by simp) im
  (by rw[hb];intro ds e;cases e) (by rw[hb];intro lp e;cases e) ⟨en',cl',by simp[Array.getElem?_setIfInBounds,dN],bW.mono tr _ _ hr,qR⟩
theorem zR(hT:bA P T){t:TypeId}{x i y:Operand}(hk:gL T e h dst (.mapUpdate t x i y) K):∃ ws,K ws/\Out P e h ⟨dst,.mapUpdate t x i y,ty,pos,after,guard⟩ ws:=by
 simp only[gL]at hk;split at hk;case h_2=>exact hk.elim
 rename_i kt ki ei id k v hm hx hi hy;split at hk;case h_2=>exact hk.elim
 rename_i cJ ho;obtain⟨N8,⟨q0,hf,hk⟩⟩:=ca hk;obtain⟨el,h1,h3,h5⟩:=wO hT hm;have Lq:=B6 hT h3 N8;have main:∀ (tu:List (D×D)),(∀ {F:Nat->Nat} {w:World} {a:Act} {en:Array MapEntry} {cl:Nat},bM F w k (a.eval i)->bM F w v (a.eval y)->bW F w cJ en.toList->sA en cl ->
   ∃ en' cl',(∀ b,a.eval x = .map (some b)->w.heap[b]?=some (.map en cl)->(Instr.mapUpdate t (a.eval x) (a.eval i) (a.eval y)).run P w = .ok () { w with heap:=w.heap.setIfInBounds b (.map en' cl') })/\bW F w tu en'.toList/\sA en' cl') ->
   Out P e h ⟨none,.mapUpdate t x i y,ty,pos,after,guard⟩ [.obj id (.map tu)]:=by
  intro tu bN σ cx r m L F st a w he hh hg hd;have dC:a.eval x = .map (some (L.ρ id)):=hg.aS (aF he hx);have rh:bM F w k (a.eval i):=hg.aS (aF he hi);have IY:bM F w v (a.eval y):=hg.aS (aF he hy);have h0:=hh _ _ ho;obtain⟨en,cl,hb,hr,qR⟩:=hg.heap.obj id _ h0;obtain⟨en',cl',wH,FG,QZ⟩:=bN (a:=a) (cl:=cl) rh IY hr qR;obtain⟨g1,g2⟩:=tA hg h0 hb FG QZ;exact⟨undef,_,.skip,by simp[execOp,wH _ dC hb],.inr ⟨rfl,rfl⟩,L,F,g1,g2⟩
 cases q0 with
 | some nv=>
  obtain⟨n,u⟩:=nv;refine⟨_,hk,main _ fun {F w a en cl} rh IY hr qR=>?_⟩;obtain⟨nT,q,hq,hm⟩:=mC hT Lq rh hf hr
  cases q with
  | none=>exact hm.elim
  | some ju=>
   obtain⟨j,u'⟩:=ju;obtain⟨rfl,_,_,dN,zE,Ht,kk,wI,AJ⟩:=hm;refine⟨en.modify n fun e=>{ e with key:=a.eval i,val:=a.eval y },cl,fun b I0 hb=>?_,by rw[Array.toList_modify];exact bW.set rh IY n hr,qR.modify (f:=fun e=>{ e with key:=a.eval i,val:=a.eval y }) (fun _=>rfl) n⟩;have mn:=uW rh wI AJ;have IQ:en[n]?=some zE:=by simpa using Ht
   simp[Instr.mapUpdate,run_underlying h1,I0,getObj,setObj,Sem.run,hb,nT,hq,Instr.keyThatStays,IQ,mn]
 | none=>
  refine⟨_,hk,main _ fun {F w a en cl} rh IY hr qR=>?_⟩;obtain⟨nT,q,hq,hm⟩:=mC hT Lq rh hf hr
  cases q with
  | some ju=>exact hm.elim
  | none=>
   refine⟨en.push { key:=a.eval i,val:=a.eval y,born:=cl },cl+1,fun b I0 hb=>?_,by simpa using bW.push rh IY hr,qR.push _ _⟩;simp[Instr.mapUpdate,run_underlying h1,I0,getObj,setObj,Sem.run,hb,nT,hq]
theorem Gg(hT:bA P T){t:TypeId}{x i y:Operand}(hk:gL T e h dst (.insert t x i y) K):∃ ws,K ws/\Out P e h ⟨dst,.insert t x i y,ty,pos,after,guard⟩ ws:=by
 simp only[gL]at hk;split at hk;case h_2=>exact hk.elim
 rename_i kt ki ei id k v hm hx hi hy;split at hk;case h_2=>exact hk.elim
 rename_i cJ ho;obtain⟨N8,⟨q0,hf,hk⟩⟩:=ca hk;obtain⟨el,h1,h3,h5⟩:=wO hT hm;have Lq:=B6 hT h3 N8;have main:∀ (tu:List (D×D)),(∀ {F:Nat->Nat} {w:World} {a:Act} {en:Array MapEntry} {cl:Nat},bM F w k (a.eval i)->bM F w v (a.eval y)->bW F w cJ en.toList->sA en cl ->
   ∃ en' cl',(∀ b,a.eval x = .map (some b)->w.heap[b]?=some (.map en cl)->(Instr.mapUpdate t (a.eval x) (a.eval i) (a.eval y)).run P w = .ok () { w with heap:=w.heap.setIfInBounds b (.map en' cl') })/\bW F w tu en'.toList/\sA en' cl') ->
   Out P e h ⟨none,.insert t x i y,ty,pos,after,guard⟩ [.obj id (.map tu)]:=by
  intro tu bN σ cx r m L F st a w he hh hg hd;have dC:a.eval x = .map (some (L.ρ id)):=hg.aS (aF he hx);have rh:bM F w k (a.eval i):=hg.aS (aF he hi);have IY:bM F w v (a.eval y):=hg.aS (aF he hy);have h0:=hh _ _ ho;obtain⟨en,cl,hb,hr,qR⟩:=hg.heap.obj id _ h0;obtain⟨en',cl',wH,FG,QZ⟩:=bN (a:=a) (cl:=cl) rh IY hr qR;obtain⟨g1,g2⟩:=tA hg h0 hb FG QZ;exact⟨undef,_,.skip,by simp[execOp,wH _ dC hb],.inr ⟨rfl,rfl⟩,L,F,g1,g2⟩
 cases q0 with
 | some nv=>
  obtain⟨n,u⟩:=nv;refine⟨_,hk,main _ fun {F w a en cl} rh IY hr qR=>?_⟩;obtain⟨nT,q,hq,hm⟩:=mC hT Lq rh hf hr
  cases q with
  | none=>exact hm.elim
  | some ju=>
   obtain⟨j,u'⟩:=ju;obtain⟨rfl,_,_,dN,zE,Ht,kk,wI,AJ⟩:=hm;refine⟨en.modify n fun e=>{ e with key:=a.eval i,val:=a.eval y },cl,fun b I0 hb=>?_,by rw[Array.toList_modify];exact bW.set rh IY n hr,qR.modify (f:=fun e=>{ e with key:=a.eval i,val:=a.eval y }) (fun _=>rfl) n⟩;have mn:=uW rh wI AJ;have IQ:en[n]?=some zE:=by simpa using Ht
   simp[Instr.mapUpdate,run_underlying h1,I0,getObj,setObj,Sem.run,hb,nT,hq,Instr.keyThatStays,IQ,mn]
 | none=>
  refine⟨_,hk,main _ fun {F w a en cl} rh IY hr qR=>?_⟩;obtain⟨nT,q,hq,hm⟩:=mC hT Lq rh hf hr
  cases q with
  | some ju=>exact hm.elim
  | none=>
   refine⟨en.push { key:=a.eval i,val:=a.eval y,born:=cl },cl+1,fun b I0 hb=>?_,by simpa using bW.push rh IY hr,qR.push _ _⟩;simp[Instr.mapUpdate,run_underlying h1,I0,getObj,setObj,Sem.run,hb,nT,hq]
theorem Ch(hT:bA P T){t:TypeId}{x i:Operand}(hk:gL T e h dst (.mapEntry t x i) K):∃ ws,K ws/\Out P e h ⟨dst,.mapEntry t x i,ty,pos,after,guard⟩ ws:=by
 simp only[gL]at hk;split at hk;case h_2=>exact hk.elim
 rename_i d kt ki ei id k hm hx hi;split at hk;case h_2=>exact hk.elim
 rename_i cJ ho;obtain⟨N8,⟨q0,hf,hk⟩⟩:=ca hk;obtain⟨el,h1,h3,h5⟩:=wO hT hm;have Lq:=B6 hT h3 N8
 cases q0 with
 | some nv=>
  obtain⟨n,u⟩:=nv;refine⟨_,hk,?_⟩;intro σ cx r m L F st a w he hh hg hd;have dC:a.eval x = .map (some (L.ρ id)):=hg.aS (aF he hx);have rh:bM F w k (a.eval i):=hg.aS (aF he hi);have h0:=hh _ _ ho;obtain⟨en,cl,hb,hr,qR⟩:=hg.heap.obj id _ h0;obtain⟨nT,q,hq,hm⟩:=mC hT Lq rh hf hr
  cases q with
  | none=>exact hm.elim
  | some ju=>
   obtain⟨j,u'⟩:=ju;obtain⟨rfl,hu,_,dN,zE,Ht,kk,wI,AJ⟩:=hm;have mn:=uW rh wI AJ;have IQ:en[n]?=some zE:=by simpa using Ht
   obtain⟨g1,g2⟩:=tA hg h0 (en':=en.modify n fun e=>{ e with key:=a.eval i }) (cl':=cl) hb (by rw[Array.toList_modify];exact bW.qn rh n hr) (qR.modify (f:=fun e=>{ e with key:=a.eval i }) (fun _=>rfl) n);refine⟨.tuple #[u',goInt n],_,_,?_,.inl rfl,L,F,g1.set (v:=.d (.tup [u,.int .i64 n])) (hd d rfl) ⟨_,rfl,_,_,rfl,bM.mono g2 _ _ hu,_,_,rfl,rfl,rfl⟩,g2⟩;simp[execOp,Instr.mapEntry,run_underlying h1,dC,getObj,setObj,Sem.run,hb,nT,hq,Instr.keyThatStays,IQ,mn,qR.2 n zE IQ]
 | none=>
  simp only at hk;split at hk;case h_2=>exact hk.elim
  rename_i z hz;refine⟨_,hk,?_⟩;intro σ cx r m L F st a w he hh hg hd;have dC:a.eval x = .map (some (L.ρ id)):=hg.aS (aF he hx);have rh:bM F w k (a.eval i):=hg.aS (aF he hi);have h0:=hh _ _ ho;obtain⟨en,cl,hb,hr,qR⟩:=hg.heap.obj id _ h0;obtain⟨nT,q,hq,hm⟩:=mC hT Lq rh hf hr
  cases q with
  | some ju=>exact hm.elim
  | none=>
   obtain⟨zv,HH,P9⟩:=wX (F:=F) (w:=w) hT h5 hz;obtain⟨g1,g2⟩:=tA hg h0 (en':=en.push { key:=a.eval i,val:=zv,born:=cl }) (cl':=cl+1) hb (by simpa using bW.push rh P9 hr) (qR.push _ _);have rR:cl=cJ.length:=by
    have:=bW.get hr;rw[qR.1];simpa using this
   refine⟨.tuple #[zv,goInt cl],_,_,?_,.inl rfl,L,F,g1.set (v:=.d (.tup [z,.int .i64 cJ.length])) (hd d rfl) ⟨_,rfl,_,_,rfl,bM.mono g2 _ _ P9,_,_,rfl,by rw[rR];rfl,rfl⟩,g2⟩;simp[execOp,Instr.mapEntry,run_underlying h1,dC,getObj,setObj,Sem.run,hb,nT,hq,HH]
theorem yR(hT:bA P T){t:TypeId}{x i y:Operand}(hk:gL T e h dst (.entryStore t x i y) K):∃ ws,K ws/\Out P e h ⟨dst,.entryStore t x i y,ty,pos,after,guard⟩ ws:=by
 simp only[gL]at hk;split at hk;case h_2=>exact hk.elim
 rename_i id n v hx hi hy;split at hk;case h_2=>exact hk.elim
 rename_i cJ ho;obtain⟨hc,hk⟩:=ca hk;simp only[Bool.and_eq_true,decide_eq_true_eq]at hc;refine⟨_,hk,?_⟩;intro σ cx r m L F st a w he hh hg hd;have dC:a.eval x = .map (some (L.ρ id)):=hg.aS (aF he hx);have fF:a.eval i = .int .i64 n:=hg.aS (aF he hi);have IY:bM F w v (a.eval y):=hg.aS (aF he hy);have h0:=hh _ _ ho;obtain⟨en,cl,hb,hr,qR⟩:=hg.heap.obj id _ h0;have dc:en.size=cJ.length:=by simpa using bW.get hr
 obtain⟨g1,g2⟩:=tA hg h0 (en':=en.modify n.toNat fun e=>{ e with val:=a.eval y }) (cl':=cl) hb (by rw[Array.toList_modify];exact bW.l7 IY n.toNat hr) (qR.modify (f:=fun e=>{ e with val:=a.eval y }) (fun _=>rfl) _);have Lh:en.findIdx? (fun e=>(e.born:Int) ==n)=some n.toNat:=by
  rw[Array.findIdx?_eq_some_iff_getElem];refine⟨by omega,?_,fun j hj=>?_⟩
  ·have:=qR.2 n.toNat _ (Array.getElem?_eq_getElem (by omega))
   simp[this];omega
  ·have:=qR.2 j _ (Array.getElem?_eq_getElem (by omega))
   simp[this];omega
 refine⟨undef,_,.skip,?_,.inr ⟨rfl,rfl⟩,L,F,g1,g2⟩;simp[execOp,Instr.entryStore,dC,fF,getObj,setObj,Sem.run,hb,Lh,asInt,asIntOf]
end
theorem ry{α:Type}{z:List α}:∀ {n j:Nat} {c:α},(List.replicate n z).flatten[j]?=some c->z[j%z.length]?=some c
 | 0,j,c,h=>by simp at h
 | n+1,j,c,h=>by
  rw[List.replicate_succ,List.flatten_cons]at h;by_cases hj:j<z.length
  ·rw[List.getElem?_append_left hj]at h
   rw[Nat.mod_eq_of_lt hj];exact h
  ·rw[List.getElem?_append_right (by omega)]at h
   rw[Nat.mod_eq_sub_mod (by omega)];exact ry h
theorem Good.EE{σ:Type}{cx:Cx σ}{r:Option Nat}{m:List Nat}{L:Loc}{F:Nat->Nat}{st st':St σ}{a:Act}{w:World}(hh:Good cx r m L F st a w)(hg:∀ i,get st'.heap i=get st.heap i)(he:st'.env=st.env:=by rfl)(hs:st'.s=st.s:=by rfl):Good cx r m L F st' a w:=by
 cases st with|mk e h s=>
 cases st' with|mk e' h' s'=>
 have he:e'=e:=he;have hs:s'=s:=hs;have hg:∀ i,get h' i=get h i:=hg;subst he hs;obtain⟨⟨h1,h2,h3,h4,h5,h6⟩,h7,h8,h9,WT,QP,SA,h13⟩:=hh;exact⟨⟨h1,h2,h3,fun i o hi=>h4 i o (by rw[<- hg i];exact hi),fun i o hi=>h5 i o (by rw[<- hg i];exact hi),fun i j o p hi hj=>h6 i j o p (by rw[<- hg i];exact hi) (by rw[<- hg j];exact hj)⟩,h7,h8,h9,WT,QP,SA,h13⟩
section
variable {P : Program} {T : e7} {e : Env} {h : Heap} {dst : Option Nat} {K : List Wr -> Prop} {ty : TypeId} {pos : String} {after : Array Edge} {guard : Option (Nat × Bool)}
theorem zQ(hT:bA P T){t:TypeId}{l c:Operand}(hk:gL T e h dst (.makeSlice t l c) K):∃ ws,K ws/\Out P e h ⟨dst,.makeSlice t l c,ty,pos,after,guard⟩ ws:=by
 simp only[gL]at hk;split at hk;case h_2=>exact hk.elim
 rename_i ei n m d hs hl hc;split at hk;case h_2=>exact hk.elim
 rename_i z FO;obtain⟨NX,hk⟩:=ca hk;simp only[Bool.and_eq_true,decide_eq_true_eq]at NX;obtain⟨gh,h0,ym⟩:=NX;obtain⟨lL,hk⟩:=ca hk;have lL:=of_decide_eq_true lL;obtain⟨el,hu,jS⟩:=ll hT hs;have Oc:=gh;simp only[oi,Bool.and_eq_true,GS,FO]at Oc;have Xn:z.length=ei.size:=er Oc.2;obtain⟨i,dd,mQ,BT,fo,rQ,_,_,_,hz⟩:=hT el ei jS;obtain⟨zv,I2,zM,_⟩:=hz z FO;obtain⟨_,_,_,_,dc,Hr,_,_,_⟩:=sS hT jS gh;refine⟨_,hk,?_⟩;intro σ cx r mm L F st a w he hh hg hd;have Zn:a.eval l = .int .i64 n:=hg.aS (aF he hl);have Zo:a.eval c = .int .i64 m:=hg.aS (aF he hc);have Lv:0<=m:=by omega
 have hmb:m<=m*(ei.bytes:Int):=by
  have h1:(1:Int)<=(ei.bytes:Int):=by omega
  calc m=m*1:=by omega
   _<=m*(ei.bytes:Int):=Int.mul_le_mul_of_nonneg_left h1 Lv
 have hr:=run_make (P:=P) w t el i zv hu mQ I2 .i64 .i64 n m h0 ym (by rw[<- rQ,Int.mul_comm];omega) (by omega);have HH:∀ w':World,bc F w' z zv.cells.toList:=fun w'=>jD zM;have Qa:zv.cells.size=ei.size:=by
  have:=(HH w).length;rw[Xn]at this;simpa using this
 generalize hcells:madeCells zv.cells (m.toNat*i.size)=cells at hr;have rS:cells.size=m.toNat*ei.size:=by rw[<- hcells,size_madeCells,fo]
 have iq:dj ei.size (aK.dd (List.replicate n.toNat z)).bm:=by
  intro e he;simp only[aK.bm,bV,List.mem_map]at he;obtain⟨y,hy,rfl⟩:=he;rw[List.eq_of_mem_replicate hy,eC,Xn]
 have v7:(aK.dd (List.replicate n.toNat z)).bm.length=n.toNat:=by simp[aK.bm,bV]
 have hle:n.toNat*ei.size<=m.toNat*ei.size:=Nat.mul_le_mul_right _ (by omega);have tr:Tr F w F (w.alloc (.cells cells el)):=Tr.alloc hg.heap.fresh _;have vr:aq cx.yv L F w (aK.dd (List.replicate n.toNat z)).bm.flatten (cells.toList.take (n.toNat*ei.size)):=by
  show aq _ _ _ _ (aG _).flatten _;rw[dt];have v8:(List.replicate n.toNat z).flatten.length=n.toNat*ei.size:=by
   simp[Xn]
  refine .kD (by rw[eC,v8];simp;omega) fun j v hj=>?_;have zI:j<n.toNat*ei.size:=by
   have:=(List.getElem?_eq_some_iff.1 hj).1;rw[eC,v8]at this;exact this
  rw[List.getElem?_take_of_lt zI];simp only[wL,Option.map_eq_some_iff]at hj;obtain⟨v',LL,rfl⟩:=hj;have:=ry LL;obtain⟨x,hx,hxr⟩:=bc.get _ (HH w) this;refine⟨x,?_,hxr⟩;rw[<- hcells];have Nl:j<m.toNat*i.size:=by rw[<- fo];omega
  rw[Xn,<- Qa]at hx;have jT:zv.cells[j%zv.cells.size]?=some x:=by simpa using hx
  have dN:=(Array.getElem?_eq_some_iff.1 jT).1;have:zv.cells[j%zv.cells.size]! =x:=by
   rw[getElem!_pos zv.cells (j%zv.cells.size) dN];exact(Array.getElem?_eq_some_iff.1 jT).2
  simp[madeCells,Nl,this]
 have te:=hg.new d cells.size (.arr ei.size (.dd (List.replicate n.toNat z))) (.cells cells el) (hg.fy (hd d rfl)) ⟨dc,iq,.inr ⟨cells,el,(by show(w.alloc _).heap[if d=d then w.heap.size else L.ρ d]?=_;rw[if_pos rfl];exact heap_alloc_new w _),(by simp),(by rw[v7,rS];exact hle),(by
  rw[v7];exact aq.lY (L:=L) (id:=d) tr (fun i hi=>by simp[hi]) (pH (c:=.dd _) rfl) vr)⟩⟩
 have bN:(execOp a.eval ⟨some d,.makeSlice t l c,ty,pos,after,guard⟩).run P w = .ok (.value (.slice (some ⟨w.heap.size,0,none⟩) n.toNat m.toNat)) (w.alloc (.cells cells el)):=by
  simp[execOp,Zn,Zo,hr]
 refine⟨_,_,_,bN,.inl rfl,_,F,te.set (v:=.sl d ei.size 0 n.toNat) (hd d rfl) ⟨_,_,rfl,by omega,dc,.inr ⟨(by simp),(by simp[rS])⟩⟩,tr⟩
theorem ML{w:World}{dT sT ty el:TypeId}{i:TypeInfo}(hu:P.underlying dT=some (.slice el))(hi:P.info? el=some i)(hs:i.size=1){base ay:Option Addr}{dLen dCap sLen sCap:Nat}{cs:List Value}
  (hl:cs.length=min sLen dLen) (hc:cs = [] \/ ∃ b off,ay=some ⟨b,off,none⟩ /\ ∀ (j:Nat) v,cs[j]?=some v->w.cell? ⟨b,off+j,none⟩=some v)
  {g o:Nat} {cur:Array Value} {t:TypeId} (hb:cs = []\/base=some ⟨g,o,none⟩) (hg:w.heap[g]?=some (.cells cur t (0,0))) (hf:o+cs.length<=cur.size) (h1:∀ v∈cs,v.oneCell'=true) :
  (Builtin.copy_ #[dT,sT] ty #[.slice base dLen dCap,.slice ay sLen sCap]).run P w = .ok (goInt cs.length) (w.setRow g (cur.toList.take o++cs++cur.toList.drop (o+cs.length)).toArray):=by
 rcases hb with rfl|rfl
 ·have uF:min sLen dLen=0:=by simpa using hl.symm
  have IU:Nat.min sLen dLen=0:=uF;have yo:w.setRow g (cur.toList.take o ++ []++cur.toList.drop (o+([]:List Value).length)).toArray=w:=by
   simp only[List.append_nil,List.length_nil,Nat.add_zero,List.take_append_drop,Array.toArray_toList];exact setRow_self w g cur t (0,0) hg
  rw[yo];cases base<;>cases ay<;>simp[Builtin.copy_,run_underlying hu,Builtin.lenOf,Builtin.firstCells,sizeOf,typeInfo,hi,hs,IU,storeCells,loadCells,loadCellsFrom]
 ·rcases hc with rfl|⟨b,off,rfl,hj⟩
  ·have uF:min sLen dLen=0:=by simpa using hl.symm
   have IU:Nat.min sLen dLen=0:=uF;have yo:w.setRow g (cur.toList.take o ++ []++cur.toList.drop (o+([]:List Value).length)).toArray=w:=by
    simp only[List.append_nil,List.length_nil,Nat.add_zero,List.take_append_drop,Array.toArray_toList];exact setRow_self w g cur t (0,0) hg
   rw[yo];cases ay<;>simp[Builtin.copy_,run_underlying hu,Builtin.lenOf,Builtin.firstCells,sizeOf,typeInfo,hi,hs,IU,storeCells,loadCells,loadCellsFrom]
  ·exact run_copy_row P w dT sT ty el g o dLen dCap ⟨b,off,none⟩ sLen sCap cur t cs hu (by simp[hi,hs]) hg hl (fun j v hv=>by rw[fh];exact hj j v hv) hf h1
theorem Mo(hT:bA P T){args:Array Operand}{tys:Array TypeId}(hk:fj T e h dst .copy args tys K):∃ ws,K ws/\Out P e h ⟨dst,.call ⟨.builtin .copy,args,tys⟩,ty,pos,after,guard⟩ ws:=by
 simp only[fj]at hk;split at hk;case h_2=>exact hk.elim
 rename_i x y t u dx DP;split at hk;case h_2=>exact hk.elim
 rename_i ei ui id sz off n v jS SQ hx hy;split at hk;case h_2=>exact hk.elim
 rename_i mm es fe;obtain⟨hc,eI⟩:=ca hk;clear hk;simp only[Bool.and_eq_true]at hc;obtain⟨rV,AL,zx⟩:=hc;have rV:=er rV;have AL:=er AL;have zx:=er zx;subst AL zx;obtain⟨fs,JV,hk⟩:=C4 eI;clear eI;split at hk;case h_2=>exact hk.elim
 rename_i fs;obtain⟨hc,hk⟩:=ca hk;simp only[Bool.and_eq_true]at hc;obtain⟨hle,v8⟩:=hc;have hle:=ng hle;obtain⟨el,wh,CH⟩:=ll hT jS;obtain⟨ie,dd,mQ,BT,fo,rQ,_⟩:=hT el ei CH;refine⟨_,hk,?_⟩;intro σ cx r m L F st a w he hh hg hd;obtain⟨base,cap,dC,Xc,_,hb⟩:=hg.aS (aF he hx);have BW:∀ e∈(aK.dd fs).bm,e.length=1/\cN e=true:=BE (es:=.dd fs) v8;have wH:=hh _ _ fe;obtain⟨_,iq,ir⟩:=hg.heap.obj id _ wH;obtain⟨ay,Td,news,Ok,UB,B0,nt,oX⟩:=sW hh hg.heap JV (hg.aS (aF he hy)) (fun e he=>(BW e he).1) (Nat.one_pos);have h1:=B0.one (gE fun e he=>(BW e he).2);have Q9:(aK.dd fs).bm.length=fs.length:=by simp[aK.bm,bV]
 rw[Q9,Nat.mul_one]at nt;rw[Q9]at Ok;have v7:(aK.dd es).bm.length=es.length:=by simp[aK.bm,bV]
 generalize wI:min fs.length n=k at hk ⊢;have uz:args.map a.eval = #[.slice base n cap,a.eval y]:=by
  apply Array.ext';simp[dx,dC]
 have P5:tys = #[t,u]:=by
  apply Array.ext';simp[DP]
 have DC:k<=fs.length:=by omega
 have Xa:k<=n:=by omega
 have uD:(news.take k).length=k:=by rw[List.length_take,nt];omega
 have Ns:∀ {α:Type} (l:List α),(l.take off++([]:List α)++l.drop (off+0))=l:=fun l=>by simp
 have UK:(fs.take k).flatten.length=k:=by
  have:=jZ (α:=D) (sz:=1) (es:=fs.take k) (fun e he=>by
   have:=(BW (inj e) (by simp only[aK.bm,bV,List.mem_map];exact⟨e,List.mem_of_mem_take he,rfl⟩)).1
   rwa [eC]at this)
  rw[this,List.length_take];omega
 rcases ir with⟨pS,hκ0⟩|⟨l,E,kM,jj,LI,FJ⟩
 ·
  have su:es = []:=by
   have:=congrArg List.length pS;rw[v7]at this;exact List.length_eq_zero_iff.1 this
  subst su;have h00:off+n=0:=by simpa using hle
  have ZH:k=0:=by omega
  have ZT:off=0:=by omega
  subst ZH ZT;have hnz:n=0:=by omega
  subst hnz;have yo:(([]:List (List D)).take 0++fs.take 0++([]:List (List D)).drop (0+0)) = []:=by simp
  rw[yo];have hr:(Builtin.copy_ #[t,u] ty #[.slice base 0 cap,a.eval y]).run P w = .ok (goInt 0) w:=by
   rw[Ok];cases base<;>cases ay<;>simp[Builtin.copy_,run_underlying wh,Builtin.lenOf,Builtin.firstCells,sizeOf,typeInfo,mQ,<- fo,rV,storeCells,loadCells,loadCellsFrom]
  have Hu:Good cx r m L F (bP st (.obj id (.arr 1 (.dd [])))) a w:=by
   refine hg.EE (fun i=>?_);simp only[bP,eM];split
   ·rename_i e;rw[e,wH]
   ·rfl
  refine⟨goInt 0,w,_,by simp[execOp,resolve,invoke,builtin,uz,P5,hr],.inl rfl,L,F,?_,Tr.refl F w⟩;exact Hu.bz (v:=.d (.int .i64 ((0:Nat):Int))) hd rfl
 ·have jn:k=0\/(base=some ⟨L.ρ id,off,none⟩/\off+cap<=L.κ id):=by
   rcases hb with⟨h0,_⟩|⟨h0,h1⟩
   ·exact .inl (by omega)
   ·exact .inr ⟨by simpa using h0,by simpa using h1⟩
  rw[Nat.mul_one]at LI FJ;rw[v7]at LI FJ;have hr:=ML (P:=P) (w:=w) (ty:=ty) (dT:=t) (sT:=u) wh mQ (by rw[<- fo,rV]) (base:=base) (ay:=ay) (dLen:=n) (dCap:=cap) (sLen:=fs.length) (sCap:=Td) (cs:=news.take k)
   (by rw[uD,wI]) (by
    rcases oX with h0|⟨b,o,e1,h1⟩
    ·left
     have:fs.length=0:=by rw[<- Q9,h0];rfl
     have:k=0:=by omega
     rw[this];rfl
    ·exact .inr ⟨b,o,e1,fun j v hv=>h1 j v (by
      have hjk:j<k:=by
       have:=(List.getElem?_eq_some_iff.1 hv).1;rw[uD]at this;exact this
      rwa [List.getElem?_take_of_lt hjk]at hv)⟩)
   (g:=L.ρ id) (o:=off) (cur:=l) (t:=E) (by
    rcases jn with h0|h0
    ·left;rw[h0];rfl
    ·exact .inr h0.1) kM (by rw[uD];omega) (fun v hv=>h1 v (List.mem_of_mem_take hv))
  rw[<- Ok]at hr;rw[uD]at hr;have hL:=Array.length_toList (xs:=l);have RG:=ib (cs:=l.toList) (l:=news.take k) (off:=off) (by rw[uD];omega);rw[uD]at RG;generalize pb:(l.toList.take off++news.take k++l.toList.drop (off+k)).toArray=c' at hr;have ce:c'.toList=l.toList.take off++news.take k++l.toList.drop (off+k):=by rw[<- pb]
  have zG:c'.size=l.size:=by rw[<- ce]at RG;simpa using RG
  have uB:Good cx r m L F (bP st (.obj id (.arr 1 (.dd (es.take off++fs.take k++es.drop (off+k)))))) a (w.setRow (L.ρ id) c')/\Tr F w F (w.setRow (L.ρ id) c'):=by
   by_cases hκ:L.κ id=0
   ·
    have hlz:l.size=0:=by rw[jj,hκ]
    have hez:es = []:=List.length_eq_zero_iff.1 (by omega);subst hez;have h00:off+n=0:=by simpa using hle
    have ZH:k=0:=by omega
    have ZT:off=0:=by omega
    subst ZH ZT;have yo:(([]:List (List D)).take 0++fs.take 0++([]:List (List D)).drop (0+0)) = []:=by simp
    rw[yo];have rR:c'=l:=by
     rw[<- pb];simp
    rw[rR,setRow_self w _ _ _ _ kM];refine⟨hg.EE (fun i=>?_),Tr.refl F w⟩;simp only[bP,eM];split
    ·rename_i e;rw[e,wH]
    ·rfl
   ·have tr:Tr F w F (w.setRow (L.ρ id) c'):=
     .iI rfl rfl rfl (by simp) (fun _=>Nat.le_refl _) hg.heap.fresh fun b _ hF=>setRow_other _ _ _ _ (by rintro rfl;have:=(hg.heap.own id _ wH hκ).1;omega)
    have PW:(es.take off++fs.take k++es.drop (off+k)).length=es.length:=by
     have:=ib (cs:=es) (l:=fs.take k) (off:=off) (by rw[List.length_take];omega);rw[List.length_take,Nat.min_eq_left DC]at this;exact this
    refine hg.obj (o:=.arr 1 (.dd (es.take off++fs.take k++es.drop (off+k)))) wH hκ (w':=w.setRow (L.ρ id) c') rfl rfl rfl (size_setRow _ _ _) (fun b hb=>setRow_other _ _ _ _ hb)
     (by rw[kM];intro ds e;cases e) (by rw[kM];intro lp e;cases e)
     ⟨Nat.one_pos,?_,.inr ⟨c',E,setRow_heap _ _ _ _ _ _ kM,by rw[zG,jj],?_,?_⟩⟩
    ·intro e he
     simp only[aK.bm,bV,List.mem_map,List.mem_append]at he;obtain⟨q,hq,rfl⟩:=he;rcases hq with(hq|hq)|hq
     ·exact iq _ (by simp only[aK.bm,bV,List.mem_map];exact⟨q,List.mem_of_mem_take hq,rfl⟩)
     ·exact(BW _ (by simp only[aK.bm,bV,List.mem_map];exact⟨q,List.mem_of_mem_take hq,rfl⟩)).1
     ·exact iq _ (by simp only[aK.bm,bV,List.mem_map];exact⟨q,List.mem_of_mem_drop hq,rfl⟩)
    ·simp only[aK.bm,bV,List.length_map,PW,Nat.mul_one,zG];omega
    ·have e0:(aK.dd (es.take off++fs.take k++es.drop (off+k))).bm.length*1=es.length:=by simp only[aK.bm,bV,List.length_map,PW,Nat.mul_one]
     rw[e0,ce];refine aq.mono tr _ _ (fun _ _=>⟨rfl,rfl⟩) ?_;have e1:(aK.dd (es.take off++fs.take k++es.drop (off+k))).bm.flatten=(aK.dd es).bm.flatten.take off++((aK.dd fs).bm.flatten.take k)++(aK.dd es).bm.flatten.drop (off+k):=by
      have h1:=ik (es:=(aK.dd es).bm) off iq;have h2:=ik (es:=(aK.dd fs).bm) k (fun e he=>(BW e he).1);have h3:=ot (es:=(aK.dd es).bm) (off+k) iq;rw[Nat.mul_one]at h1 h2 h3;rw[<- h1,<- h2,<- h3];simp[aK.bm,bV,List.map_take,List.map_drop]
     rw[e1];have e2:((l.toList.take off++news.take k++l.toList.drop (off+k)).take es.length)=(l.toList.take es.length).take off++news.take k++(l.toList.take es.length).drop (off+(news.take k).length):=by
      have:=vQ (l:=l.toList) (Y:=news.take k) (o:=off) (n:=es.length) (by rw[uD];omega) (by omega);rw[uD]at this ⊢;exact this
     rw[e2,uD];exact((FJ.take off).append (B0.take k)).append (FJ.drop (off+k))
  refine⟨goInt k,_,_,by simp[execOp,resolve,invoke,builtin,uz,P5,hr],.inl rfl,L,F,?_,uB.2⟩;exact uB.1.bz (v:=.d (.int .i64 ((k:Nat):Int))) hd rfl
end
end Go.PX
