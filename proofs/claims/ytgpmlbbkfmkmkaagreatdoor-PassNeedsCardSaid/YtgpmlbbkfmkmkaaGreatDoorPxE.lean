import Derived.Test.YtgpmlbbkfmkmkaaGreatDoorPxD
import Derived.Laws.MakeOwn
set_option linter.all false
namespace Go.PX
open Go.RowKit
section
variable {P : Program} {T : Tys} {e : Env} {h : Heap} {dst : Option Nat} {K : List Wr -> Prop} {ty : TypeId} {pos : String} {after : Array Edge} {guard : Option (Nat × Bool)}
theorem qrd(hT:qU P T){t:TypeId}{x:Operand}(hk:opK T e h dst (.range t x) K):∃ ws,K ws/\Out P e h ⟨dst,.range t x,ty,pos,after,guard⟩ ws:=by
 simp only[opK]at hk;split at hk;case h_3=>exact hk.elim
 case h_2=>
  rename_i ti id d ht hx;split at hk;case h_2=>exact hk.elim
  rename_i mk me kvs hkd hid;obtain⟨hne,hk⟩:=zw hk;have hne:id≠d:=by rintro rfl;simp at hne
  obtain⟨de,hde,hk1⟩:=jN hT ht;rw[hkd]at hk1;have:=qgZ hk1.symm;subst this;refine⟨_,hk,?_⟩;intro σ cx r m L F st a w he hh hg hd;have hev:a.eval x = .map (some (L.ρ id)):=hg.opnd (qo he hx);obtain⟨en,c,hb,hr,hbn⟩:=hg.heap.obj id _ (hh _ _ hid);have hl:c=kvs.length:=by rw[hbn.1];simpa using RepKv.get hr
  have tr:Tr F w F (w.alloc (.mapIter (some (L.ρ id)) c #[] c)):=Tr.alloc hg.heap.fresh _;have hgn:=hg.new d 0 (.mit (.mp id) kvs.length (List.range kvs.length) none) (.mapIter (some (L.ρ id)) c #[] c) (hg.unpinned (hd d rfl))
   ⟨L.ρ id,#[],by show Value.map (some _) = .map (some _);simp[hne],by show(w.alloc _).heap[if d=d then w.heap.size else L.ρ d]?=_;rw[if_pos rfl,heap_alloc_new w _,hl],(fun i=>by simp),fun i e=>by cases e⟩
  refine⟨.pointer (some ⟨w.heap.size,0,none⟩),_,_,?_,.inl rfl,_,F,hgn.set (v:=.it d) (hd d rfl) (by show Value.pointer _=Value.pointer _;simp),tr⟩;simp[execOp,hev,Instr.range,run_underlying hde,getObj,Sem.run,hb]
 rename_i ti s d ht hx;split at hk;case h_2=>exact hk.elim
 rename_i hkd;obtain⟨de,hde,hk1⟩:=jN hT ht;rw[hkd]at hk1;have:=qbE hk1.symm;subst this;refine⟨_,hk,?_⟩;intro σ cx r m L F st a w he hh hg hd;have hev:=qdc hg he hx;have tr:Tr F w F (w.alloc (.stringIter s 0)):=Tr.alloc hg.heap.fresh _;have hgn:=hg.new d 0 (.iter s 0) (.stringIter s 0) (hg.unpinned (hd d rfl)) (by show(w.alloc _).heap[if d=d then w.heap.size else L.ρ d]?=_;rw[if_pos rfl];exact heap_alloc_new w _);refine⟨.pointer (some ⟨w.heap.size,0,none⟩),_,_,?_,.inl rfl,_,F,hgn.set (v:=.it d) (hd d rfl) (by show Value.pointer _=Value.pointer _;simp),tr⟩;simp[execOp,hev,Instr.range,run_underlying hde]
theorem quL{σ:Type}{cx:Cx σ}{r:Option Nat}{m:List Nat}{L:Loc}{F:Nat->Nat}{st:St σ}{a:Act}{w:World}(hg:Good cx r m L F st a w){h:Heap}(hh:qaF h st.heap){v:V}{kvs:List (D×D)}(hkv:qxs h v=some kvs){rb:Nat}(hv:RepV cx.yv L F w v (.map (some rb))) :
  ∃ en c,w.heap[rb]?=some (.map en c)/\RepKv F w kvs en.toList/\Born en c:=by
 unfold qxs at hkv;split at hkv;case h_2=>cases hkv
 rename_i mm;split at hkv;case h_2=>cases hkv
 rename_i kvs' hmm;cases hkv;have hv:Value.map (some rb) = .map (some (L.ρ mm)):=hv;simp only[Value.map.injEq,Option.some.injEq]at hv;rw[hv];exact hg.heap.obj mm _ (hh _ _ hmm)
theorem qre{x:Operand}(hk:opK T e h dst (.entry x) K):∃ ws,K ws/\Out P e h ⟨dst,.entry x,ty,pos,after,guard⟩ ws:=by
 simp only[opK]at hk;split at hk;case h_2=>exact hk.elim
 rename_i id hx;split at hk;case h_2=>exact hk.elim
 rename_i v n todo i hid;split at hk;case h_2=>exact hk.elim
 rename_i kvs hkv;obtain⟨hn,⟨k,u⟩,hi,hk⟩:=hk;refine⟨_,hk,qR (v:=.d (.tup [k,u])) (o:=⟨dst,.entry x,ty,pos,after,guard⟩) fun cx r m L F st a w he hh hg=>?_⟩;have hev:a.eval x = .pointer (some ⟨L.ρ id,0,none⟩):=hg.opnd (qo he hx);obtain⟨rb,seen,hv,hb,_,hcur⟩:=hg.heap.obj id _ (hh _ _ hid);obtain⟨en,c,hm,hr,hbn⟩:=quL hg hh hkv hv;have hback:=hcur i rfl;have hcn:c=n:=by
  rw[hbn.1,<- hn];simpa using RepKv.get hr
 have hil:i<en.size:=by
  have:=(List.getElem?_eq_some_iff.1 hi).1;have h2:=RepKv.get hr;simp at h2;omega
 obtain⟨k',u',hku,hkr,hur⟩:=RepKv.at hr (i:=i) (e:=en[i]) (by simp[hil]);rw[hi]at hku;cases hku;have hfind:en.find? (·.born ==i)=some en[i]:=by
  rw[Array.find?_eq_some_iff_getElem];have hb0:=hbn.2 i _ (Array.getElem?_eq_getElem hil);refine⟨by simp[hb0],i,hil,rfl,fun j hj=>?_⟩;have:=hbn.2 j _ (Array.getElem?_eq_getElem (by omega));simp[this];omega
 refine⟨.tuple #[en[i].key,en[i].val],?_,⟨_,rfl,_,_,rfl,hkr,_,_,rfl,hur,rfl⟩⟩;simp[execOp,hev,Instr.entry,getObj,Sem.run,Sem.run_bind,hb,hback,hm,hcn,hfind]
theorem qtm{x:Operand}{b:Bool}(hk:opK T e h dst (.next x b) K):∃ ws,K ws/\Out P e h ⟨dst,.next x b,ty,pos,after,guard⟩ ws:=by
 simp only[opK]at hk;split at hk;case h_2=>exact hk.elim
 rename_i id hx;split at hk;case h_2=>exact hk.elim
 rename_i s p hs;rcases qka hk with⟨hb,⟨hk⟩⟩|⟨hb,hk⟩
 ·have hb:=of_decide_eq_true hb
  refine⟨_,hk,?_⟩;intro σ cx r m L F st a w he hh hg hd;have hev:a.eval x = .pointer (some ⟨L.ρ id,0,none⟩):=hg.opnd (qo he hx);have h0:=hh _ _ hs;have hb0:w.heap[L.ρ id]?=some (.stringIter s p):=hg.heap.obj id _ h0;have hlt:=(Array.getElem?_eq_some_iff.1 hb0).1;obtain⟨g1,g2⟩:=hg.obj (o:=.iter s (p+(Utf8.decode s p).2)) h0 trivial (w':={ w with heap:=w.heap.setIfInBounds (L.ρ id) (.stringIter s (p+(Utf8.decode s p).2)) }) rfl rfl rfl (by simp) (fun y hy=>by simp[Array.getElem?_setIfInBounds_ne (Ne.symm hy)])
   (by rw[hb0];intro ds e;cases e) (by rw[hb0];intro lp e;cases e) (by show _=_;simp[Array.getElem?_setIfInBounds,hlt])
  refine⟨.tuple #[.bool true,.int .i64 p,.int .i32 (Utf8.decode s p).1],_,_,?_,.inl rfl,L,F,?_,g2⟩
  ·simp only[execOp,hev,Instr.next,getObj,setObj,Sem.run_bind,Sem.run,hb0,Result.andThen]
   simp[hb,Sem.run,hb0,goInt]
  ·cases dst with
   | none=>exact g1
   | some d=>exact g1.set (hd d rfl) ⟨_,rfl,⟨_,_,rfl,rfl,_,_,rfl,rfl,_,_,rfl,rfl,rfl⟩⟩
 ·have hb:=of_decide_eq_false hb
  refine⟨_,hk,qR (o:=⟨dst,.next x true,ty,pos,after,guard⟩) fun cx r m L F st a w he hh hg=>?_⟩;have hev:a.eval x = .pointer (some ⟨L.ρ id,0,none⟩):=hg.opnd (qo he hx);have hb0:w.heap[L.ρ id]?=some (.stringIter s p):=hg.heap.obj id _ (hh _ _ hs);refine⟨_,?_,⟨_,rfl,⟨_,_,rfl,rfl,rfl⟩⟩⟩;simp only[execOp,hev,Instr.next,getObj,Sem.run_bind,Sem.run,hb0,Result.andThen];simp[hb,Sem.run]
theorem qne{t:TypeId}{x:Option Operand}(hk:opK T e h dst (.makeMap t x) K):∃ ws,K ws/\Out P e h ⟨dst,.makeMap t x,ty,pos,after,guard⟩ ws:=by
 simp only[opK]at hk;split at hk;case h_2=>exact hk.elim
 rename_i d;refine⟨_,hk,?_⟩;intro σ cx r m L F st a w he hh hg hd;have tr:Tr F w F (w.alloc (.map #[] 0)):=Tr.alloc hg.heap.fresh _;have hgn:=hg.new d 0 (.map []) (.map #[] 0) (hg.unpinned (hd d rfl)) ⟨#[],0,by show(w.alloc _).heap[if d=d then w.heap.size else L.ρ d]?=_;rw[if_pos rfl];exact heap_alloc_new w _,rfl,rfl,by intro i e h;simp at h⟩;refine⟨.map (some w.heap.size),_,_,?_,.inl rfl,_,F,hgn.set (v:=.mp d) (hd d rfl) (by show Value.map _=Value.map _;simp),tr⟩;simp[execOp,Instr.makeMap]
inductive KeyOk(P:Program)(T:Tys)(kt:TypeId)(k:D):Prop where
 | plain (dk:TypeDesc) (hk:P.underlying kt=some dk) (hdk:(∃ k,dk = .int k)\/dk = .string\/dk = .bool) (hkk:qof T kt (qfZ dk) k=true)
 | wide (dk:TypeDesc) (cs:List D) (n:Nat) (hk:P.underlying kt=some dk) (hag:∃ ti,T.get kt=some ti/\ti.isAgg=true) (hdk:∀ x y,Instr.sameNow dk x y=none) (hc:k = .agg cs) (hf:flat T 9 kt=some n) (hl:cs.length=n) (hi:qmN T 9 kt cs=true)
theorem qke(hT:qU P T){t kt:TypeId}{ki ei:TyI}(h:qpo T t=some (kt,(ki,ei))):∃ el,P.underlying t=some (.map kt el)/\T.get kt=some ki/\T.get el=some ei:=by
 unfold qpo at h;split at h;case h_2=>cases h
 rename_i ti ht;split at h;case h_2=>cases h
 rename_i kt el hkd;obtain⟨de,hde,hk1⟩:=jN hT ht;rw[hkd]at hk1;have:=qgZ hk1.symm;subst this;split at h;case h_2=>cases h
 rename_i ki' ei' hki hei;cases h;exact⟨el,hde,hki,hei⟩
theorem qoq(hT:qU P T){kt:TypeId}{ki:TyI}(hki:T.get kt=some ki){k:D}(h:qof T kt ki.kd k=true):KeyOk P T kt k:=by
 obtain⟨i,dk,hi,hdk,_,_,hk2,hag,_⟩:=hT kt ki hki
 cases hkd:ki.kd with
 | int q=>
  have:=qee (hk2.symm.trans hkd);subst this;exact .plain _ hdk (.inl ⟨_,rfl⟩) (by rw[hkd]at h;exact h)
 | str=>
  have:=qbE (hk2.symm.trans hkd);subst this;exact .plain _ hdk (.inr (.inl rfl)) (by rw[hkd]at h;exact h)
 | bool=>
  have:=qff (hk2.symm.trans hkd);subst this;exact .plain _ hdk (.inr (.inr rfl)) (by rw[hkd]at h;exact h)
 | struct fs=>
  rw[hkd]at h;obtain⟨fa,rfl,_⟩:=qaX (hk2.symm.trans hkd);cases k<;>simp only[qof]at h<;>try (cases h;done)
  split at h;case h_2=>cases h
  rename_i n hn;simp only[Bool.and_eq_true]at h;exact .wide _ _ n hdk ⟨ki,hki,hag⟩ (fun x y=>by cases x<;>cases y<;>rfl) rfl hn (qah h.1) h.2
 | array m e=>
  rw[hkd]at h;have:=qag (hk2.symm.trans hkd);subst this;cases k<;>simp only[qof]at h<;>try (cases h;done)
  split at h;case h_2=>cases h
  rename_i n hn;simp only[Bool.and_eq_true]at h;exact .wide _ _ n hdk ⟨ki,hki,hag⟩ (fun x y=>by cases x<;>cases y<;>rfl) rfl hn (qah h.1) h.2
 | _=>rw[hkd]at h;cases k<;>simp only[qof]at h<;>cases h
theorem quM(a b:ByteArray):(a ==b)=decide (a=b):=by
 have h:(a ==b)=(a.data ==b.data):=by cases a;cases b;rfl
 rw[h];by_cases hab:a=b
 ·subst hab;simp
 ·have:a.data≠b.data:=fun e=>hab (by cases a;cases b;simp only at e;rw[e])
  simp[hab,this]
theorem qvt{F:Nat->Nat}{w:World}{kt:TypeId}{dk:TypeDesc}(hdk:(∃ k,dk = .int k)\/dk = .string\/dk = .bool){k:D}{x:Value}(hx:RepD F w k x)(hkk:qof T kt (qfZ dk) k=true)(k':D)(y:Value)(r:Bool)(h:qdF k k'=some r)(hy:RepD F w k' y):Instr.sameNow dk x y=some r:=by
 cases k<;>cases k'<;>simp only[qdF]at h<;>try (cases h;done)
 ·cases hx;cases hy
  cases h;rcases hdk with⟨_,rfl⟩|rfl|rfl<;>simp[qof,qfZ]at hkk
  rfl
 ·cases hx;cases hy
  rename_i k1 a k2 b;split at h
  ·rename_i he
   have he:=of_decide_eq_true he;cases h;rcases hdk with⟨_,rfl⟩|rfl|rfl<;>simp[qof,qfZ]at hkk
   simp[Instr.sameNow,he];rfl
  ·cases h
 ·cases hx;cases hy
  cases h;rcases hdk with⟨_,rfl⟩|rfl|rfl<;>simp[qof,qfZ]at hkk
  show some (_ ==_)=_;rename_i a b
  congr 1
  exact quM _ _
 ·rcases hdk with⟨_,rfl⟩|rfl|rfl<;>simp[qof,qfZ]at hkk
def Found(F:Nat->Nat)(w:World)(k:D)(es:List MapEntry)(n:Nat)(r:Option (Nat×D))(q:Option (Nat×Value)):Prop:=
 match r,q with
 | none,none=>True
 | some (i,v),some (j,u)=>i=j/\RepD F w v u/\n<=i/\i<n+es.length /\ ∃ en,es[i-n]?=some en /\ ∃ kk,RepD F w kk en.key/\qdF k kk=some true
 | _,_=>False
theorem qlw{F:Nat->Nat}{w:World}{kd:TypeDesc}{k:D}{x:Value}(hx:RepD F w k x)(hsame:∀ (k':D) (y:Value) (r:Bool),qdF k k'=some r->RepD F w k' y->Instr.sameNow kd x y=some r) :
  ∀ {kvs:List (D×D)} {es:List MapEntry} {n:Nat} {r:Option (Nat×D)},qdG k kvs n=some r->RepKv F w kvs es ->
   ∃ q,Instr.findNow kd x es n=some q/\Found F w k es n r q
 | [],es,n,r,h,hr=>by
  have hr:es = []:=hr;subst hr;simp only[qdG,Option.some.injEq]at h;subst h;exact⟨none,rfl,trivial⟩
 | (k',v)::kr,es,n,r,h,hr=>by
  obtain⟨en,es',rfl,hk,hv,hr⟩:=hr;simp only[qdG]at h;split at h
  ·rename_i hs
   cases h;refine⟨some (n,en.val),?_,rfl,hv,Nat.le_refl _,by simp,en,by simp,k',hk,hs⟩;simp only[Instr.findNow,hsame k' en.key true hs hk]
  ·rename_i hs
   obtain⟨q,h1,h2⟩:=qlw hx hsame h hr;refine⟨q,?_,?_⟩
   ·simp only[Instr.findNow,hsame k' en.key false hs hk];exact h1
   ·match r,q,h2 with
    | none,none,_=>trivial
    | some (i,v),some (j,u),⟨p1,p2,p3,p4,en',p5,p6⟩=>
     refine⟨p1,p2,by omega,by simp;omega,en',?_,p6⟩;have:i-n=(i-(n+1))+1:=by omega
     rw[this,List.getElem?_cons_succ];exact p5
  ·cases h
theorem qlx{F:Nat->Nat}{w:World}{kt:TypeId}{k:D}{x:Value}(hx:RepD F w k x)(hsame:∀ (k':D) (y:Value) (r:Bool),qdF k k'=some r->RepD F w k' y->(Op.equal kt x y).run P w = .ok r w) :
  ∀ {kvs:List (D×D)} {es:List MapEntry} {n:Nat} {r:Option (Nat×D)},qdG k kvs n=some r->RepKv F w kvs es ->
   ∃ q,(Instr.findAsking kt x es n).run P w = .ok q w/\Found F w k es n r q
 | [],es,n,r,h,hr=>by
  have hr:es = []:=hr;subst hr;simp only[qdG,Option.some.injEq]at h;subst h;exact⟨none,by simp[Instr.findAsking],trivial⟩
 | (k',v)::kr,es,n,r,h,hr=>by
  obtain⟨en,es',rfl,hk,hv,hr⟩:=hr;simp only[qdG]at h;split at h
  ·rename_i hs
   cases h;refine⟨some (n,en.val),?_,rfl,hv,Nat.le_refl _,by simp,en,by simp,k',hk,hs⟩;simp[Instr.findAsking,hsame k' en.key true hs hk]
  ·rename_i hs
   obtain⟨q,h1,h2⟩:=qlx hx hsame h hr;refine⟨q,?_,?_⟩
   ·simp[Instr.findAsking,hsame k' en.key false hs hk,h1]
   ·match r,q,h2 with
    | none,none,_=>trivial
    | some (i,v),some (j,u),⟨p1,p2,p3,p4,en',p5,p6⟩=>
     refine⟨p1,p2,by omega,by simp;omega,en',?_,p6⟩;have:i-n=(i-(n+1))+1:=by omega
     rw[this,List.getElem?_cons_succ];exact p5
  ·cases h
theorem qhA:∀ {a b c d:List D},jp a b=some true->jp c d=some true->jp (a++c) (b++d)=some true
 | [],[],_,_,_,h=>h
 | [],_::_,_,_,h,_=>by simp[jp]at h
 | _::_,[],_,_,h,_=>by simp[jp]at h
 | x::a,y::b,c,d,h,k=>by
  simp only[jp]at h;split at h;case h_2=>cases h
  rename_i p q hp hq;simp only[Option.some.injEq,Bool.and_eq_true]at h;obtain⟨rfl,rfl⟩:=h;simp[jp,hp,qhA hq k]
theorem qly{T:Tys}:∀ (d:Nat) (t:TypeId) (n:Nat),flat T d t=some n -> ∃ ti,T.get t=some ti/\ti.size=n
 | 0,_,_,h=>by simp[flat]at h
 | d+1,t,n,h=>by
  simp only[flat]at h;split at h
  ·cases h
  rename_i ti hti;refine⟨ti,hti,?_⟩;split at h
  ·split at h
   ·rename_i hs;cases h;exact Nat.eq_of_beq_eq_true hs
   ·cases h
  ·split at h
   ·rename_i hs;cases h;exact Nat.eq_of_beq_eq_true hs
   ·cases h
  ·split at h
   ·rename_i hs;cases h;exact Nat.eq_of_beq_eq_true hs
   ·cases h
  ·split at h
   ·split at h
    ·rename_i hs;cases h;exact Nat.eq_of_beq_eq_true hs
    ·cases h
   ·cases h
  ·split at h
   ·split at h
    ·rename_i hs;cases h;exact Nat.eq_of_beq_eq_true hs
    ·cases h
   ·cases h
  ·cases h
theorem qjf{T:Tys}{f:TypeId->Option Nat}{g:TypeId->List D->Bool}(hf:∀ t c xs,f t=some c->(∃ ti,T.get t=some ti/\ti.size=c)/\(xs.length=c->g t xs=true->jp xs xs=some true)):∀ (fs:List (Nat×TypeId)) (n m:Nat) (xs:List D),qgw f fs n=some m->xs.length=m->qpm T g fs xs=true->n<=m/\jp (xs.drop n) (xs.drop n)=some true
 | [],n,m,xs,h,hl,_=>by
  simp only[qgw,Option.some.injEq]at h;subst h;rw[List.drop_eq_nil_of_le (by omega)];exact⟨Nat.le_refl _,rfl⟩
 | (off,t)::r,n,m,xs,h,hl,hk=>by
  simp only[qgw]at h;split at h;case h_2=>cases h
  rename_i c hoff hc;have hoff:=Nat.eq_of_beq_eq_true hoff;subst hoff;obtain⟨⟨ti,hti,hsz⟩,_⟩:=hf t (c+1) xs hc;simp only[qpm,hti]at hk;split at hk;case h_2=>cases hk
  rename_i hk1;obtain⟨h1,h2⟩:=qjf hf r _ m xs h hl hk;rw[hsz]at hk1;have h3:=(hf t (c+1) ((xs.drop off).take (c+1)) hc).2 (by simp;omega) hk1;refine⟨by omega,?_⟩;have h4:=qhA h3 h2
  rwa [<- List.drop_drop,List.take_append_drop]at h4
theorem qjg{g:List D->Bool}{c:Nat}(hg:∀ xs:List D,xs.length=c->g xs=true->jp xs xs=some true):∀ (n:Nat) (xs:List D),xs.length=n*c->qpn g c n xs=true->jp xs xs=some true
 | 0,xs,hl,_=>by
  have:xs = []:=List.length_eq_zero_iff.1 (by simpa using hl);subst this;rfl
 | n+1,xs,hl,hk=>by
  rw[Nat.succ_mul]at hl;simp only[qpn]at hk;split at hk;case h_2=>cases hk
  rename_i hk1;have h1:=hg (xs.take c) (by simp;omega) hk1;have h2:=qjg hg n (xs.drop c) (by simp;omega) hk;have h3:=qhA h1 h2
  rwa [List.take_append_drop]at h3
theorem qkf{T:Tys}:∀ (d:Nat) (t:TypeId) (xs:List D) (n:Nat),flat T d t=some n->xs.length=n->qmN T d t xs=true->jp xs xs=some true
 | 0,_,_,_,h,_,_=>by simp[flat]at h
 | d+1,t,xs,n,h,hl,hk=>by
  simp only[flat]at h;split at h
  ·cases h
  rename_i ti hti;simp only[qmN,hti]at hk;split at h
  ·rename_i hkd
   simp only[hkd]at hk;split at hk
   ·simp[jp,qgR]
   ·cases hk
  ·rename_i hkd
   simp only[hkd]at hk;split at hk
   ·simp[jp,qgR]
   ·cases hk
  ·rename_i hkd
   simp only[hkd]at hk;split at hk
   ·simp[jp,qgR,qli]
   ·cases hk
  ·rename_i fs hkd
   simp only[hkd]at hk;split at h;case h_2=>cases h
   rename_i m _ hm;split at h;case h_2=>cases h
   cases h;have:=(qjf (T:=T) (f:=fun t=>flat T d t) (g:=fun t xs=>qmN T d t xs) (fun t c xs hc=>⟨qly d t c hc,fun hl hk=>qkf d t xs c hc hl hk⟩) fs 0 _ xs hm hl hk).2;simpa using this
  ·rename_i m e hkd
   simp only[hkd]at hk;split at h;case h_2=>cases h
   rename_i c hc;split at h;case h_2=>cases h
   cases h;obtain⟨ei,hei,hes⟩:=qly d e (c+1) hc;simp only[hei,hes]at hk;exact qjg (fun xs hl hk=>qkf d e xs _ hc hl hk) m xs hl hk
  ·cases h
theorem qdQ(hT:qU P T){F:Nat->Nat}{w:World}{kt:TypeId}{k:D}{x:Value}(ho:KeyOk P T kt k)(hx:RepD F w k x){kvs:List (D×D)}{es:List MapEntry}{r:Option (Nat×D)}(hf:qdG k kvs 0=some r)(hr:RepKv F w kvs es) :
  (∀ b,(Instr.checkKey b 10000 kt x).run P w = .ok () w) /\ ∃ q,(Instr.findKey kt x es).run P w = .ok q w/\Found F w k es 0 r q:=by
 cases ho with
 | plain dk hk hdk hkk=>
  obtain⟨q,hq,hm⟩:=qlw hx (qvt hdk hx hkk) hf hr;refine⟨fun b=>?_,q,by simp[Instr.findKey,run_underlying hk,hq],hm⟩;rw[show(10000:Nat)=9999+1 from rfl];unfold Instr.checkKey;rcases hdk with⟨k,rfl⟩|rfl|rfl<;>simp[run_underlying hk]
 | wide dk cs n hk hag hdk hc hfl hl hi=>
  subst hc;obtain⟨lx,rfl,hlx⟩:=hx;obtain⟨ti,hti,hag⟩:=hag;have hval:∀ (zs:List D) (l:Array Value),RepDL F w zs l.toList->qht T F w kt zs (.agg l):=fun zs l hl ti' hti'=>by
   rw[hti]at hti';cases hti';rw[hag];exact⟨l,rfl,hl⟩
  have hck:∀ N,9<=N->qop P T F w N 9 kt n:=fun N hN=>qgb hT 9 kt n hfl N hN;refine⟨fun b=>((hck 10000 (by decide)).2 cs cs true hl hi (qkf 9 kt cs n hfl hl hi) _ _ (hval _ _ hlx) (hval _ _ hlx)).2 b,?_⟩;have hsame:∀ (k':D) (y:Value) (r:Bool),qdF (.agg cs) k'=some r->RepD F w k' y->(Op.equal kt (.agg lx) y).run P w = .ok r w:=by
   intro k' y r hs hy;cases k'<;>simp only[qdF]at hs<;>try (cases hs;done)
   obtain⟨ly,rfl,hly⟩:=hy;exact((hck Op.maxDepth (by decide)).2 cs _ r hl hi hs _ _ (hval _ _ hlx) (hval _ _ hly)).1
  obtain⟨q,hq,hm⟩:=qlx (P:=P) (kt:=kt) (k:=.agg cs) (x:=.agg lx) ⟨lx,rfl,hlx⟩ hsame hf hr
  cases hes:es with
  | nil=>
   subst hes;have:kvs = []:=by
    cases kvs with
    | nil=>rfl
    | cons p r=>obtain⟨_,_,h,_⟩:=hr;cases h
   subst this;simp only[qdG,Option.some.injEq]at hf;subst hf;exact⟨none,by simp[Instr.findKey,run_underlying hk,Instr.findNow],trivial⟩
  | cons en es'=>
   rw[<- hes];refine⟨q,?_,hm⟩;have:Instr.findNow dk (.agg lx) es 0=none:=by rw[hes];simp[Instr.findNow,hdk]
   simp[Instr.findKey,run_underlying hk,this,hq]
theorem qkg{F:Nat->Nat}{w:World}(hT:qU P T){el:TypeId}{ei:TyI}(hei:T.get el=some ei){z:D}(hz:qpp ei=some z):∃ zv,(zeroValue el).run P w = .ok zv w/\RepD F w z zv:=by
 obtain⟨i,d,hi,hd,_,_,_,_,_,hzz⟩:=hT el ei hei;unfold qpp at hz;split at hz
 ·rename_i l hl ha
  cases hz;obtain⟨zv,hzv,hzc,hag⟩:=hzz _ hl;refine⟨zv,by simp[zeroValue,typeInfo,hi,hzv],?_⟩;rw[ha]at hag;unfold zeroCells at hzc;unfold qwl at hag;split at hag
  ·rename_i l' ho
   rw[ho]at hzc;cases hzc;exact qdL ho
  ·cases hag
 ·rename_i l hl ha
  cases hz;obtain⟨zv,hzv,hzc,hag⟩:=hzz _ hl;refine⟨zv,by simp[zeroValue,typeInfo,hi,hzv],?_⟩;rw[ha]at hag;unfold zeroCells at hzc;unfold qwl at hag;split at hzc
  ·rename_i l' ho;rw[ho]at hag;cases hag
  ·cases hzc
  ·rename_i v _ _ ho
   cases hzc;exact qdL ho
  ·cases hzc
 ·cases hz
theorem qkh{d:TypeDesc}(h:qog (qfZ d)=true):∀ ms,d ≠ .interface ms:=by
 rintro ms rfl;cases h
theorem qgc(hT:qU P T){t:TypeId}{x:Operand}(hk:opK T e h dst (.makeInterface t x) K):∃ ws,K ws/\Out P e h ⟨dst,.makeInterface t x,ty,pos,after,guard⟩ ws:=by
 simp only[opK]at hk;split at hk;case h_2=>exact hk.elim
 rename_i ti v ht hx;obtain⟨hp,hk⟩:=zw hk;obtain⟨de,hde,hk1⟩:=jN hT ht;rw[hk1]at hp;have hni:=qkh hp;refine⟨_,hk,qR (v:=.d (.ifc t v)) (o:=⟨dst,.makeInterface t x,ty,pos,after,guard⟩) fun cx r m L F st a w he hh hg=>⟨.iface t (a.eval x),?_,⟨_,rfl,hg.opnd (qo he hx)⟩⟩⟩;cases de<;>first|exact absurd rfl (hni _)|simp[execOp,Instr.makeInterface,run_underlying hde]
theorem qhB{yv:Option Nat}{L:Loc}{F:Nat->Nat}{w:World}{c b:Bool}{v:D}{x:Value}(h:RepD F w v x):RepV yv L F w (qiN c v b) (if c=true then .tuple #[x,.bool b] else x):=by
 cases c
 ·exact h
 ·exact⟨_,rfl,_,_,rfl,h,_,_,rfl,rfl,rfl⟩
theorem qiP(hT:qU P T){x:Operand}{xt at':TypeId}{c:Bool}(hk:opK T e h dst (.typeAssert x xt at' c) K):∃ ws,K ws/\Out P e h ⟨dst,.typeAssert x xt at' c,ty,pos,after,guard⟩ ws:=by
 simp only[opK]at hk;split at hk;case h_3=>exact hk.elim
 ·rename_i ti t v ht hx
  obtain⟨hp,hk2⟩:=zw hk;clear hk;obtain⟨de,hde,hk1⟩:=jN hT ht;rw[hk1]at hp;have hni:=qkh hp;split at hk2
  ·rename_i he1
   have:=Nat.eq_of_beq_eq_true he1;subst this;refine⟨_,hk2,qR (v:=qiN c v true) (o:=⟨dst,.typeAssert x xt t c,ty,pos,after,guard⟩) fun cx r m L F st a w he hh hg=>?_⟩;obtain⟨y,hy,hr⟩:=hg.opnd (qo he hx);refine⟨if c=true then .tuple #[y,.bool true] else y,?_,qhB hr⟩;cases de<;>first|exact absurd rfl (hni _)|simp[execOp,Instr.typeAssert,run_underlying hde,hy]
  ·rename_i he1
   have hne:t≠at':=by rintro rfl;simp at he1
   split at hk2;case h_2=>exact hk2.elim
   rename_i _ _ z hz;refine⟨_,hk2,qR (v:=qiN true z false) (o:=⟨dst,.typeAssert x xt at' true,ty,pos,after,guard⟩) fun cx r m L F st a w he hh hg=>?_⟩;obtain⟨y,hy,hr⟩:=hg.opnd (qo he hx);obtain⟨zv,hzr,hzd⟩:=qkg (F:=F) (w:=w) hT ht hz;refine⟨.tuple #[zv,.bool false],?_,qhB (c:=true) hzd⟩;cases de<;>first|exact absurd rfl (hni _)|simp[execOp,Instr.typeAssert,run_underlying hde,hy,hne,hzr]
 ·rename_i ti ht hx
  obtain⟨hp,hk2⟩:=zw hk;clear hk;obtain⟨de,hde,hk1⟩:=jN hT ht;rw[hk1]at hp;have hni:=qkh hp;split at hk2;case h_2=>exact hk2.elim
  rename_i _ _ z hz;refine⟨_,hk2,qR (v:=qiN true z false) (o:=⟨dst,.typeAssert x xt at' true,ty,pos,after,guard⟩) fun cx r m L F st a w he hh hg=>?_⟩;have hy:a.eval x = .nilIface:=hg.opnd (qo he hx);obtain⟨zv,hzr,hzd⟩:=qkg (F:=F) (w:=w) hT ht hz;refine⟨.tuple #[zv,.bool false],?_,qhB (c:=true) hzd⟩;cases de<;>first|exact absurd rfl (hni _)|simp[execOp,Instr.typeAssert,run_underlying hde,hy,hzr]
theorem qpy(hT:qU P T){t:TypeId}{x i:Operand}{c:Bool}(hk:opK T e h dst (.lookup t x i c) K):∃ ws,K ws/\Out P e h ⟨dst,.lookup t x i c,ty,pos,after,guard⟩ ws:=by
 simp only[opK]at hk;split at hk;case h_2=>exact hk.elim
 rename_i kt ki ei kvs k hm hkv hi;obtain⟨hkb,⟨r,hf,hk⟩⟩:=zw hk;obtain⟨el,h1,h3,h5⟩:=qke hT hm;have hko:=qoq hT h3 hkb;have hent:∀ {σ:Type} (cx:Cx σ) (r:Option Nat) (m:List Nat) (L:Loc) (F:Nat->Nat) (st:St σ) (a:Act) (w:World),qaF e st.env->qaF h st.heap->Good cx r m L F st a w ->
   ∃ es:List MapEntry,RepKv F w kvs es/\((a.eval x = .map none/\es = []) \/ ∃ b en cl,a.eval x = .map (some b)/\w.heap[b]?=some (.map en cl)/\en.toList=es):=by
  intro σ cx r m L F st a w he hh hg;unfold qwu at hkv;split at hkv
  ·rename_i kvs' hx
   cases hkv;obtain⟨b,en,cl,hev,hF,hb,hr⟩:=hg.opnd (qo he hx);exact⟨en.toList,hr,.inr ⟨b,en,cl,hev,hb,rfl⟩⟩
  ·rename_i hx
   cases hkv;exact⟨[],rfl,.inl ⟨hg.opnd (qo he hx),rfl⟩⟩
  ·rename_i id hx
   split at hkv;case h_2=>cases hkv
   rename_i kvs' ho;cases hkv;obtain⟨en,cl,hb,hr,_⟩:=hg.heap.obj id _ (hh _ _ ho);exact⟨en.toList,hr,.inr ⟨_,en,cl,hg.opnd (qo he hx),hb,rfl⟩⟩
  ·cases hkv
 have hrun:∀ {a:Act} {w:World} {es:List MapEntry} {q:Option (Nat×Value)},(∀ b,(Instr.checkKey b 10000 kt (a.eval i)).run P w = .ok () w)->(Instr.findKey kt (a.eval i) es).run P w = .ok q w->((a.eval x = .map none/\es = []) \/ ∃ b en cl,a.eval x = .map (some b)/\w.heap[b]?=some (.map en cl)/\en.toList=es) ->
   ∀ v ok,((∃ n,q=some (n,v))/\ok=true)\/(q=none/\ok=false/\(zeroValue el).run P w = .ok v w)->(Instr.lookup t (a.eval x) (a.eval i) c).run P w = .ok (if c then .tuple #[v,.bool ok] else v) w:=by
  intro a w es q hck hq hx v ok hv;rcases hx with⟨hx,rfl⟩|⟨b,en,cl,hx,hb,rfl⟩
  ·have hq':(Instr.findKey kt (a.eval i) (#[]:Array MapEntry).toList).run P w = .ok q w:=hq
   rcases hv with⟨⟨n,rfl⟩,rfl⟩|⟨rfl,rfl,hz⟩
   ·simp[Instr.lookup,run_underlying h1,hx,hck,hq']
   ·simp[Instr.lookup,run_underlying h1,hx,hck,hq',hz]
  ·rcases hv with⟨⟨n,rfl⟩,rfl⟩|⟨rfl,rfl,hz⟩
   ·simp[Instr.lookup,run_underlying h1,hx,hck,hq,getObj,Sem.run,hb]
   ·simp[Instr.lookup,run_underlying h1,hx,hck,hq,getObj,Sem.run,hb,hz]
 have hlook:∀ {F:Nat->Nat} {w:World} {yv:Option Nat} {L:Loc} {v:D} {u:Value} {ok:Bool},RepD F w v u->RepV yv L F w (qiN c v ok) (if c then .tuple #[u,.bool ok] else u):=by
  intro F w yv L v u ok hv;cases c
  ·exact hv
  ·exact⟨_,rfl,_,_,rfl,hv,_,_,rfl,rfl,rfl⟩
 cases r with
 | some nv=>
  obtain⟨n,v⟩:=nv;refine⟨_,hk,qR (o:=⟨dst,.lookup t x i c,ty,pos,after,guard⟩) fun cx r m L F st a w he hh hg=>?_⟩;obtain⟨es,hr,hx⟩:=hent cx r m L F st a w he hh hg;have hkr:RepD F w k (a.eval i):=hg.opnd (qo he hi);obtain⟨hck,q,hq,hm⟩:=qdQ hT hko hkr hf hr
  cases q with
  | none=>exact hm.elim
  | some ju=>
   obtain⟨j,u⟩:=ju;obtain⟨rfl,hv,_⟩:=hm;exact⟨_,by simp[execOp,hrun hck hq hx u true (.inl ⟨⟨n,rfl⟩,rfl⟩)],hlook hv⟩
 | none=>
  simp only at hk;split at hk;case h_2=>exact hk.elim
  rename_i z hz;refine⟨_,hk,qR (o:=⟨dst,.lookup t x i c,ty,pos,after,guard⟩) fun cx r m L F st a w he hh hg=>?_⟩;obtain⟨es,hr,hx⟩:=hent cx r m L F st a w he hh hg;have hkr:RepD F w k (a.eval i):=hg.opnd (qo he hi);obtain⟨hck,q,hq,hm⟩:=qdQ hT hko hkr hf hr
  cases q with
  | some ju=>exact hm.elim
  | none=>
   obtain⟨zv,hzr,hzd⟩:=qkg (F:=F) (w:=w) hT h5 hz;exact⟨_,by simp[execOp,hrun hck hq hx zv false (.inr ⟨rfl,rfl,hzr⟩)],hlook hzd⟩
theorem RepKv.set{F:Nat->Nat}{w:World}{k v:D}{x y:Value}(hk:RepD F w k x)(hv:RepD F w v y):∀ {kvs:List (D×D)} {es:List MapEntry} (n:Nat),RepKv F w kvs es->RepKv F w (kvs.set n (k,v)) (es.modify n fun e=>{ e with key:=x,val:=y })
 | [],es,n,h=>by rw[show es = [] from h];cases n<;>rfl
 | (k',v')::r,es,0,h=>by
  obtain⟨en,es',rfl,_,_,hr⟩:=h;exact⟨{ en with key:=x,val:=y },es',by simp,hk,hv,hr⟩
 | (k',v')::r,es,n+1,h=>by
  obtain⟨en,es',rfl,h1,h2,hr⟩:=h;exact⟨en,es'.modify n fun e=>{ e with key:=x,val:=y },by simp,h1,h2,RepKv.set hk hv n hr⟩
theorem RepKv.push{F:Nat->Nat}{w:World}{k v:D}{x y:Value}{b:Nat}(hk:RepD F w k x)(hv:RepD F w v y):∀ {kvs:List (D×D)} {es:List MapEntry},RepKv F w kvs es->RepKv F w (kvs ++ [(k,v)]) (es ++ [{ key:=x,val:=y,born:=b }])
 | [],es,h=>by rw[show es = [] from h];exact⟨_,[],rfl,hk,hv,rfl⟩
 | (k',v')::r,es,h=>by
  obtain⟨en,es',rfl,h1,h2,hr⟩:=h;exact⟨en,es' ++ [{ key:=x,val:=y,born:=b }],by simp,h1,h2,RepKv.push hk hv hr⟩
theorem qpz{F:Nat->Nat}{w:World}{n:Nat}{a:D}{x y:Value}(h:qgR a a=some true)(hx:RepD F w a x)(hy:RepD F w a y):x=y/\Instr.sameBits (n+1) x y=true:=by
 cases a<;>simp only[qgR]at h<;>try (cases h;done)
 ·cases hx;cases hy;exact⟨rfl,by simp[Instr.sameBits]⟩
 ·cases hx;cases hy;exact⟨rfl,by simp[Instr.sameBits]⟩
 ·rename_i t v
  obtain⟨x1,rfl,h1⟩:=hx;obtain⟨y1,rfl,h2⟩:=hy;cases v<;>simp[qli]at h;cases h1;cases h2
  exact⟨rfl,by cases n<;>simp[Instr.sameBits]⟩
theorem qlz{F:Nat->Nat}{w:World}{n:Nat}:∀ {cs:List D} {l m:List Value},jp cs cs=some true->RepDL F w cs l->RepDL F w cs m->l=m/\(l.zip m).all (fun(x,y)=>Instr.sameBits (n+1) x y)=true
 | [],l,m,_,hl,hm=>by
  have hl:l = []:=hl;have hm:m = []:=hm;subst hl hm;exact⟨rfl,rfl⟩
 | c::cs,l,m,hi,hl,hm=>by
  obtain⟨x,l',rfl,hx,hl⟩:=hl;obtain⟨y,m',rfl,hy,hm⟩:=hm;simp only[jp]at hi;split at hi;case h_2=>cases hi
  rename_i p q hp hq;simp only[Option.some.injEq,Bool.and_eq_true]at hi;obtain⟨rfl,rfl⟩:=hi;obtain⟨h1,h2⟩:=qlz (n:=n) (cs:=cs) hq hl hm;obtain⟨h3,h4⟩:=qpz (n:=n) hp hx hy;exact⟨by rw[h1,h3],by simp only[List.zip_cons_cons,List.all_cons,h2,h4,Bool.and_true]⟩
theorem qhC{F:Nat->Nat}{w:World}{k k':D}{x y:Value}(hx:RepD F w k x)(hy:RepD F w k' y)(h:qdF k k'=some true):Instr.sameBits 10000 y x=true:=by
 cases k<;>cases k'<;>simp only[qdF]at h<;>try (cases h;done)
 ·cases hx;cases hy
  rename_i a b;have h:=Option.some.inj h;show(b ==a)=true;cases a<;>cases b<;>simp_all
 ·cases hx;cases hy
  rename_i k1 a k2 b;split at h
  ·rename_i he
   have he:=of_decide_eq_true he;have h:=of_decide_eq_true (Option.some.inj h);subst he;subst h;simp[Instr.sameBits]
  ·cases h
 ·cases hx;cases hy
  have h:=of_decide_eq_true (Option.some.inj h);subst h;show(_ ==_)=true;rw[quM];simp
 ·obtain⟨lx,rfl,hlx⟩:=hx
  obtain⟨ly,rfl,hly⟩:=hy;have h1:=qje h;subst h1;obtain⟨e,hb⟩:=qlz (n:=9998) h hly hlx;have:ly=lx:=Array.ext' e;subst this;rw[show(10000:Nat)=9999+1 from rfl];unfold Instr.sameBits;rw[Bool.and_eq_true];exact⟨by simp,hb⟩
theorem RepKv.setKey{F:Nat->Nat}{w:World}{k:D}{x:Value}(hk:RepD F w k x):∀ {kvs:List (D×D)} {es:List MapEntry} (n:Nat),RepKv F w kvs es->RepKv F w (setKey kvs n k) (es.modify n fun e=>{ e with key:=x })
 | [],es,n,h=>by rw[show es = [] from h];cases n<;>rfl
 | (k',v')::r,es,0,h=>by
  obtain⟨en,es',rfl,_,hv,hr⟩:=h;exact⟨{ en with key:=x },es',by simp,hk,hv,hr⟩
 | (k',v')::r,es,n+1,h=>by
  obtain⟨en,es',rfl,h1,h2,hr⟩:=h;exact⟨en,es'.modify n fun e=>{ e with key:=x },by simp,h1,h2,RepKv.setKey hk n hr⟩
theorem RepKv.setVal{F:Nat->Nat}{w:World}{v:D}{x:Value}(hk:RepD F w v x):∀ {kvs:List (D×D)} {es:List MapEntry} (n:Nat),RepKv F w kvs es->RepKv F w (setVal kvs n v) (es.modify n fun e=>{ e with val:=x })
 | [],es,n,h=>by rw[show es = [] from h];cases n<;>rfl
 | (k',v')::r,es,0,h=>by
  obtain⟨en,es',rfl,hk',_,hr⟩:=h;exact⟨{ en with val:=x },es',by simp,hk',hk,hr⟩
 | (k',v')::r,es,n+1,h=>by
  obtain⟨en,es',rfl,h1,h2,hr⟩:=h;exact⟨en,es'.modify n fun e=>{ e with val:=x },by simp,h1,h2,RepKv.setVal hk n hr⟩
theorem Born.modify{en:Array MapEntry}{c:Nat}(h:Born en c){f:MapEntry->MapEntry}(hf:∀ e,(f e).born=e.born)(n:Nat):Born (en.modify n f) c:=by
 refine⟨by simpa using h.1,fun i e he=>?_⟩;rw[Array.getElem?_modify]at he;split at he
 ·obtain⟨e',he',rfl⟩:=Option.map_eq_some_iff.1 he
  rw[hf];exact h.2 i e' he'
 ·exact h.2 i e he
theorem Born.push{en:Array MapEntry}{c:Nat}(h:Born en c)(k v:Value):Born (en.push { key:=k,val:=v,born:=c }) (c+1):=by
 refine⟨by simp[h.1],fun i e he=>?_⟩;rw[Array.getElem?_push]at he;split at he
 ·rename_i hi
  cases he;rw[hi];exact h.1
 ·exact h.2 i e he
theorem qhD{σ:Type}{cx:Cx σ}{r:Option Nat}{m:List Nat}{L:Loc}{F:Nat->Nat}{st:St σ}{a:Act}{w:World}(hg:Good cx r m L F st a w){id:Nat}{kvs kvs':List (D×D)}(h0:get st.heap id=some (.map kvs)){en en':Array MapEntry}{cl cl':Nat}(hb:w.heap[L.ρ id]?=some (.map en cl))
  (hr:RepKv F w kvs' en'.toList) (hbn:Born en' cl') :
  Good cx r m L F (zf st (.obj id (.map kvs'))) a { w with heap:=w.heap.setIfInBounds (L.ρ id) (.map en' cl') }/\Tr F w F { w with heap:=w.heap.setIfInBounds (L.ρ id) (.map en' cl') }:=by
 have hlt:=(Array.getElem?_eq_some_iff.1 hb).1;have hF:=(hg.heap.own id _ h0 trivial).1;have hkeep:∀ z,z≠L.ρ id->({ w with heap:=w.heap.setIfInBounds (L.ρ id) (.map en' cl') }:World).heap[z]?=w.heap[z]?:=fun z hz=>by simp[Array.getElem?_setIfInBounds_ne (Ne.symm hz)]
 have tr:Tr F w F { w with heap:=w.heap.setIfInBounds (L.ρ id) (.map en' cl') }:=
  .of_keep rfl rfl rfl (by simp) (fun _=>Nat.le_refl _) hg.heap.fresh fun b _ hF'=>hkeep b (by rintro rfl;omega)
 exact hg.obj (o:=.map kvs') h0 trivial (w':={ w with heap:=w.heap.setIfInBounds (L.ρ id) (.map en' cl') }) rfl rfl rfl (by simp) hkeep
  (by rw[hb];intro ds e;cases e) (by rw[hb];intro lp e;cases e) ⟨en',cl',by simp[Array.getElem?_setIfInBounds,hlt],RepKv.mono tr _ _ hr,hbn⟩
theorem qki(hT:qU P T){t:TypeId}{x i y:Operand}(hk:opK T e h dst (.mapUpdate t x i y) K):∃ ws,K ws/\Out P e h ⟨dst,.mapUpdate t x i y,ty,pos,after,guard⟩ ws:=by
 simp only[opK]at hk;split at hk;case h_2=>exact hk.elim
 rename_i kt ki ei id k v hm hx hi hy;split at hk;case h_2=>exact hk.elim
 rename_i kvs ho;obtain⟨hkb,⟨q0,hf,hk⟩⟩:=zw hk;obtain⟨el,h1,h3,h5⟩:=qke hT hm;have hko:=qoq hT h3 hkb;have main:∀ (kvs':List (D×D)),(∀ {F:Nat->Nat} {w:World} {a:Act} {en:Array MapEntry} {cl:Nat},RepD F w k (a.eval i)->RepD F w v (a.eval y)->RepKv F w kvs en.toList->Born en cl ->
   ∃ en' cl',(∀ b,a.eval x = .map (some b)->w.heap[b]?=some (.map en cl)->(Instr.mapUpdate t (a.eval x) (a.eval i) (a.eval y)).run P w = .ok () { w with heap:=w.heap.setIfInBounds b (.map en' cl') })/\RepKv F w kvs' en'.toList/\Born en' cl') ->
   Out P e h ⟨none,.mapUpdate t x i y,ty,pos,after,guard⟩ [.obj id (.map kvs')]:=by
  intro kvs' hrun σ cx r m L F st a w he hh hg hd;have hev:a.eval x = .map (some (L.ρ id)):=hg.opnd (qo he hx);have hkr:RepD F w k (a.eval i):=hg.opnd (qo he hi);have hvr:RepD F w v (a.eval y):=hg.opnd (qo he hy);have h0:=hh _ _ ho;obtain⟨en,cl,hb,hr,hbn⟩:=hg.heap.obj id _ h0;obtain⟨en',cl',hgo,hr',hbn'⟩:=hrun (a:=a) (cl:=cl) hkr hvr hr hbn;obtain⟨g1,g2⟩:=qhD hg h0 hb hr' hbn';exact⟨undef,_,.skip,by simp[execOp,hgo _ hev hb],.inr ⟨rfl,rfl⟩,L,F,g1,g2⟩
 cases q0 with
 | some nv=>
  obtain⟨n,u⟩:=nv;refine⟨_,hk,main _ fun {F w a en cl} hkr hvr hr hbn=>?_⟩;obtain⟨hck,q,hq,hm⟩:=qdQ hT hko hkr hf hr
  cases q with
  | none=>exact hm.elim
  | some ju=>
   obtain⟨j,u'⟩:=ju;obtain⟨rfl,_,_,hlt,en1,hen,kk,hkk,hsm⟩:=hm;refine⟨en.modify n fun e=>{ e with key:=a.eval i,val:=a.eval y },cl,fun b hxb hb=>?_,by rw[Array.toList_modify];exact RepKv.set hkr hvr n hr,hbn.modify (f:=fun e=>{ e with key:=a.eval i,val:=a.eval y }) (fun _=>rfl) n⟩;have hb2:=qhC hkr hkk hsm;have hen':en[n]?=some en1:=by simpa using hen
   simp[Instr.mapUpdate,run_underlying h1,hxb,getObj,setObj,Sem.run,hb,hck,hq,Instr.keyThatStays,hen',hb2]
 | none=>
  refine⟨_,hk,main _ fun {F w a en cl} hkr hvr hr hbn=>?_⟩;obtain⟨hck,q,hq,hm⟩:=qdQ hT hko hkr hf hr
  cases q with
  | some ju=>exact hm.elim
  | none=>
   refine⟨en.push { key:=a.eval i,val:=a.eval y,born:=cl },cl+1,fun b hxb hb=>?_,by simpa using RepKv.push hkr hvr hr,hbn.push _ _⟩;simp[Instr.mapUpdate,run_underlying h1,hxb,getObj,setObj,Sem.run,hb,hck,hq]
theorem qpA(hT:qU P T){t:TypeId}{x i y:Operand}(hk:opK T e h dst (.insert t x i y) K):∃ ws,K ws/\Out P e h ⟨dst,.insert t x i y,ty,pos,after,guard⟩ ws:=by
 simp only[opK]at hk;split at hk;case h_2=>exact hk.elim
 rename_i kt ki ei id k v hm hx hi hy;split at hk;case h_2=>exact hk.elim
 rename_i kvs ho;obtain⟨hkb,⟨q0,hf,hk⟩⟩:=zw hk;obtain⟨el,h1,h3,h5⟩:=qke hT hm;have hko:=qoq hT h3 hkb;have main:∀ (kvs':List (D×D)),(∀ {F:Nat->Nat} {w:World} {a:Act} {en:Array MapEntry} {cl:Nat},RepD F w k (a.eval i)->RepD F w v (a.eval y)->RepKv F w kvs en.toList->Born en cl ->
   ∃ en' cl',(∀ b,a.eval x = .map (some b)->w.heap[b]?=some (.map en cl)->(Instr.mapUpdate t (a.eval x) (a.eval i) (a.eval y)).run P w = .ok () { w with heap:=w.heap.setIfInBounds b (.map en' cl') })/\RepKv F w kvs' en'.toList/\Born en' cl') ->
   Out P e h ⟨none,.insert t x i y,ty,pos,after,guard⟩ [.obj id (.map kvs')]:=by
  intro kvs' hrun σ cx r m L F st a w he hh hg hd;have hev:a.eval x = .map (some (L.ρ id)):=hg.opnd (qo he hx);have hkr:RepD F w k (a.eval i):=hg.opnd (qo he hi);have hvr:RepD F w v (a.eval y):=hg.opnd (qo he hy);have h0:=hh _ _ ho;obtain⟨en,cl,hb,hr,hbn⟩:=hg.heap.obj id _ h0;obtain⟨en',cl',hgo,hr',hbn'⟩:=hrun (a:=a) (cl:=cl) hkr hvr hr hbn;obtain⟨g1,g2⟩:=qhD hg h0 hb hr' hbn';exact⟨undef,_,.skip,by simp[execOp,hgo _ hev hb],.inr ⟨rfl,rfl⟩,L,F,g1,g2⟩
 cases q0 with
 | some nv=>
  obtain⟨n,u⟩:=nv;refine⟨_,hk,main _ fun {F w a en cl} hkr hvr hr hbn=>?_⟩;obtain⟨hck,q,hq,hm⟩:=qdQ hT hko hkr hf hr
  cases q with
  | none=>exact hm.elim
  | some ju=>
   obtain⟨j,u'⟩:=ju;obtain⟨rfl,_,_,hlt,en1,hen,kk,hkk,hsm⟩:=hm;refine⟨en.modify n fun e=>{ e with key:=a.eval i,val:=a.eval y },cl,fun b hxb hb=>?_,by rw[Array.toList_modify];exact RepKv.set hkr hvr n hr,hbn.modify (f:=fun e=>{ e with key:=a.eval i,val:=a.eval y }) (fun _=>rfl) n⟩;have hb2:=qhC hkr hkk hsm;have hen':en[n]?=some en1:=by simpa using hen
   simp[Instr.mapUpdate,run_underlying h1,hxb,getObj,setObj,Sem.run,hb,hck,hq,Instr.keyThatStays,hen',hb2]
 | none=>
  refine⟨_,hk,main _ fun {F w a en cl} hkr hvr hr hbn=>?_⟩;obtain⟨hck,q,hq,hm⟩:=qdQ hT hko hkr hf hr
  cases q with
  | some ju=>exact hm.elim
  | none=>
   refine⟨en.push { key:=a.eval i,val:=a.eval y,born:=cl },cl+1,fun b hxb hb=>?_,by simpa using RepKv.push hkr hvr hr,hbn.push _ _⟩;simp[Instr.mapUpdate,run_underlying h1,hxb,getObj,setObj,Sem.run,hb,hck,hq]
theorem qlA(hT:qU P T){t:TypeId}{x i:Operand}(hk:opK T e h dst (.mapEntry t x i) K):∃ ws,K ws/\Out P e h ⟨dst,.mapEntry t x i,ty,pos,after,guard⟩ ws:=by
 simp only[opK]at hk;split at hk;case h_2=>exact hk.elim
 rename_i d kt ki ei id k hm hx hi;split at hk;case h_2=>exact hk.elim
 rename_i kvs ho;obtain⟨hkb,⟨q0,hf,hk⟩⟩:=zw hk;obtain⟨el,h1,h3,h5⟩:=qke hT hm;have hko:=qoq hT h3 hkb
 cases q0 with
 | some nv=>
  obtain⟨n,u⟩:=nv;refine⟨_,hk,?_⟩;intro σ cx r m L F st a w he hh hg hd;have hev:a.eval x = .map (some (L.ρ id)):=hg.opnd (qo he hx);have hkr:RepD F w k (a.eval i):=hg.opnd (qo he hi);have h0:=hh _ _ ho;obtain⟨en,cl,hb,hr,hbn⟩:=hg.heap.obj id _ h0;obtain⟨hck,q,hq,hm⟩:=qdQ hT hko hkr hf hr
  cases q with
  | none=>exact hm.elim
  | some ju=>
   obtain⟨j,u'⟩:=ju;obtain⟨rfl,hu,_,hlt,en1,hen,kk,hkk,hsm⟩:=hm;have hb2:=qhC hkr hkk hsm;have hen':en[n]?=some en1:=by simpa using hen
   obtain⟨g1,g2⟩:=qhD hg h0 (en':=en.modify n fun e=>{ e with key:=a.eval i }) (cl':=cl) hb (by rw[Array.toList_modify];exact RepKv.setKey hkr n hr) (hbn.modify (f:=fun e=>{ e with key:=a.eval i }) (fun _=>rfl) n);refine⟨.tuple #[u',goInt n],_,_,?_,.inl rfl,L,F,g1.set (v:=.d (.tup [u,.int .i64 n])) (hd d rfl) ⟨_,rfl,_,_,rfl,RepD.mono g2 _ _ hu,_,_,rfl,rfl,rfl⟩,g2⟩;simp[execOp,Instr.mapEntry,run_underlying h1,hev,getObj,setObj,Sem.run,hb,hck,hq,Instr.keyThatStays,hen',hb2,hbn.2 n en1 hen']
 | none=>
  simp only at hk;split at hk;case h_2=>exact hk.elim
  rename_i z hz;refine⟨_,hk,?_⟩;intro σ cx r m L F st a w he hh hg hd;have hev:a.eval x = .map (some (L.ρ id)):=hg.opnd (qo he hx);have hkr:RepD F w k (a.eval i):=hg.opnd (qo he hi);have h0:=hh _ _ ho;obtain⟨en,cl,hb,hr,hbn⟩:=hg.heap.obj id _ h0;obtain⟨hck,q,hq,hm⟩:=qdQ hT hko hkr hf hr
  cases q with
  | some ju=>exact hm.elim
  | none=>
   obtain⟨zv,hzr,hzd⟩:=qkg (F:=F) (w:=w) hT h5 hz;obtain⟨g1,g2⟩:=qhD hg h0 (en':=en.push { key:=a.eval i,val:=zv,born:=cl }) (cl':=cl+1) hb (by simpa using RepKv.push hkr hzd hr) (hbn.push _ _);have hcl:cl=kvs.length:=by
    have:=RepKv.get hr;rw[hbn.1];simpa using this
   refine⟨.tuple #[zv,goInt cl],_,_,?_,.inl rfl,L,F,g1.set (v:=.d (.tup [z,.int .i64 kvs.length])) (hd d rfl) ⟨_,rfl,_,_,rfl,RepD.mono g2 _ _ hzd,_,_,rfl,by rw[hcl];rfl,rfl⟩,g2⟩;simp[execOp,Instr.mapEntry,run_underlying h1,hev,getObj,setObj,Sem.run,hb,hck,hq,hzr]
theorem qiQ(hT:qU P T){t:TypeId}{x i y:Operand}(hk:opK T e h dst (.entryStore t x i y) K):∃ ws,K ws/\Out P e h ⟨dst,.entryStore t x i y,ty,pos,after,guard⟩ ws:=by
 simp only[opK]at hk;split at hk;case h_2=>exact hk.elim
 rename_i id n v hx hi hy;split at hk;case h_2=>exact hk.elim
 rename_i kvs ho;obtain⟨hc,hk⟩:=zw hk;simp only[Bool.and_eq_true,decide_eq_true_eq]at hc;refine⟨_,hk,?_⟩;intro σ cx r m L F st a w he hh hg hd;have hev:a.eval x = .map (some (L.ρ id)):=hg.opnd (qo he hx);have hin:a.eval i = .int .i64 n:=hg.opnd (qo he hi);have hvr:RepD F w v (a.eval y):=hg.opnd (qo he hy);have h0:=hh _ _ ho;obtain⟨en,cl,hb,hr,hbn⟩:=hg.heap.obj id _ h0;have hsz:en.size=kvs.length:=by simpa using RepKv.get hr
 obtain⟨g1,g2⟩:=qhD hg h0 (en':=en.modify n.toNat fun e=>{ e with val:=a.eval y }) (cl':=cl) hb (by rw[Array.toList_modify];exact RepKv.setVal hvr n.toNat hr) (hbn.modify (f:=fun e=>{ e with val:=a.eval y }) (fun _=>rfl) _);have hfind:en.findIdx? (fun e=>(e.born:Int) ==n)=some n.toNat:=by
  rw[Array.findIdx?_eq_some_iff_getElem];refine⟨by omega,?_,fun j hj=>?_⟩
  ·have:=hbn.2 n.toNat _ (Array.getElem?_eq_getElem (by omega))
   simp[this];omega
  ·have:=hbn.2 j _ (Array.getElem?_eq_getElem (by omega))
   simp[this];omega
 refine⟨undef,_,.skip,?_,.inr ⟨rfl,rfl⟩,L,F,g1,g2⟩;simp[execOp,Instr.entryStore,hev,hin,getObj,setObj,Sem.run,hb,hfind,asInt,asIntOf]
end
theorem qfk{α:Type}{z:List α}:∀ {n j:Nat} {c:α},(List.replicate n z).flatten[j]?=some c->z[j%z.length]?=some c
 | 0,j,c,h=>by simp at h
 | n+1,j,c,h=>by
  rw[List.replicate_succ,List.flatten_cons]at h;by_cases hj:j<z.length
  ·rw[List.getElem?_append_left hj]at h
   rw[Nat.mod_eq_of_lt hj];exact h
  ·rw[List.getElem?_append_right (by omega)]at h
   rw[Nat.mod_eq_sub_mod (by omega)];exact qfk h
theorem Good.same_get{σ:Type}{cx:Cx σ}{r:Option Nat}{m:List Nat}{L:Loc}{F:Nat->Nat}{st st':St σ}{a:Act}{w:World}(hh:Good cx r m L F st a w)(hg:∀ i,get st'.heap i=get st.heap i)(he:st'.env=st.env:=by rfl)(hs:st'.s=st.s:=by rfl):Good cx r m L F st' a w:=by
 cases st with|mk e h s=>
 cases st' with|mk e' h' s'=>
 have he:e'=e:=he;have hs:s'=s:=hs;have hg:∀ i,get h' i=get h i:=hg;subst he hs;obtain⟨⟨h1,h2,h3,h4,h5,h6⟩,h7,h8,h9,h10,h11,h12,h13⟩:=hh;exact⟨⟨h1,h2,h3,fun i o hi=>h4 i o (by rw[<- hg i];exact hi),fun i o hi=>h5 i o (by rw[<- hg i];exact hi),fun i j o p hi hj=>h6 i j o p (by rw[<- hg i];exact hi) (by rw[<- hg j];exact hj)⟩,h7,h8,h9,h10,h11,h12,h13⟩
section
variable {P : Program} {T : Tys} {e : Env} {h : Heap} {dst : Option Nat} {K : List Wr -> Prop} {ty : TypeId} {pos : String} {after : Array Edge} {guard : Option (Nat × Bool)}
theorem qkj(hT:qU P T){t:TypeId}{l c:Operand}(hk:opK T e h dst (.makeSlice t l c) K):∃ ws,K ws/\Out P e h ⟨dst,.makeSlice t l c,ty,pos,after,guard⟩ ws:=by
 simp only[opK]at hk;split at hk;case h_2=>exact hk.elim
 rename_i ei n m d hs hl hc;split at hk;case h_2=>exact hk.elim
 rename_i z hzz;obtain⟨hcc,hk⟩:=zw hk;simp only[Bool.and_eq_true,decide_eq_true_eq]at hcc;obtain⟨hok,h0,hnm⟩:=hcc;obtain⟨hbig,hk⟩:=zw hk;have hbig:=of_decide_eq_true hbig;obtain⟨el,hu,hei⟩:=qcD hT hs;have hok':=hok;simp only[qfa,Bool.and_eq_true,qqJ,hzz]at hok';have hzl:z.length=ei.size:=qah hok'.2;obtain⟨i,dd,hie,hdd,hsize,hbytes,_,_,_,hz⟩:=hT el ei hei;obtain⟨zv,hzv,hzc,_⟩:=hz z hzz;obtain⟨_,_,_,_,hsz,hby,_,_,_⟩:=qhb hT hei hok;refine⟨_,hk,?_⟩;intro σ cx r mm L F st a w he hh hg hd;have hev1:a.eval l = .int .i64 n:=hg.opnd (qo he hl);have hev2:a.eval c = .int .i64 m:=hg.opnd (qo he hc);have hm0:0<=m:=by omega
 have hmb:m<=m*(ei.bytes:Int):=by
  have h1:(1:Int)<=(ei.bytes:Int):=by omega
  calc m=m*1:=by omega
   _<=m*(ei.bytes:Int):=Int.mul_le_mul_of_nonneg_left h1 hm0
 have hr:=run_make (P:=P) w t el i zv hu hie hzv .i64 .i64 n m h0 hnm (by rw[<- hbytes,Int.mul_comm];omega) (by omega);have hzr:∀ w':World,RepDL F w' z zv.cells.toList:=fun w'=>qbI hzc;have hzs:zv.cells.size=ei.size:=by
  have:=(hzr w).length;rw[hzl]at this;simpa using this
 generalize hcells:madeCells zv.cells (m.toNat*i.size)=cells at hr;have hcsz:cells.size=m.toNat*ei.size:=by rw[<- hcells,size_madeCells,hsize]
 have hlens:zL ei.size (Els.dd (List.replicate n.toNat z)).toV:=by
  intro e he;simp only[Els.toV,qZ,List.mem_map]at he;obtain⟨y,hy,rfl⟩:=he;rw[List.eq_of_mem_replicate hy,jl,hzl]
 have hesl:(Els.dd (List.replicate n.toNat z)).toV.length=n.toNat:=by simp[Els.toV,qZ]
 have hle:n.toNat*ei.size<=m.toNat*ei.size:=Nat.mul_le_mul_right _ (by omega);have tr:Tr F w F (w.alloc (.cells cells el)):=Tr.alloc hg.heap.fresh _;have hflat:RepVL cx.yv L F w (Els.dd (List.replicate n.toNat z)).toV.flatten (cells.toList.take (n.toNat*ei.size)):=by
  show RepVL _ _ _ _ (ze _).flatten _;rw[zW];have hfl:(List.replicate n.toNat z).flatten.length=n.toNat*ei.size:=by
   simp[hzl]
  refine .of_get (by rw[jl,hfl];simp;omega) fun j v hj=>?_;have hjl:j<n.toNat*ei.size:=by
   have:=(List.getElem?_eq_some_iff.1 hj).1;rw[jl,hfl]at this;exact this
  rw[List.getElem?_take_of_lt hjl];simp only[qjX,Option.map_eq_some_iff]at hj;obtain⟨v',hv',rfl⟩:=hj;have:=qfk hv';obtain⟨x,hx,hxr⟩:=RepDL.get _ (hzr w) this;refine⟨x,?_,hxr⟩;rw[<- hcells];have hjm:j<m.toNat*i.size:=by rw[<- hsize];omega
  rw[hzl,<- hzs]at hx;have hx':zv.cells[j%zv.cells.size]?=some x:=by simpa using hx
  have hlt:=(Array.getElem?_eq_some_iff.1 hx').1;have:zv.cells[j%zv.cells.size]! =x:=by
   rw[getElem!_pos zv.cells (j%zv.cells.size) hlt];exact(Array.getElem?_eq_some_iff.1 hx').2
  simp[madeCells,hjm,this]
 have hgn:=hg.new d cells.size (.arr ei.size (.dd (List.replicate n.toNat z))) (.cells cells el) (hg.unpinned (hd d rfl)) ⟨hsz,hlens,.inr ⟨cells,el,(by show(w.alloc _).heap[if d=d then w.heap.size else L.ρ d]?=_;rw[if_pos rfl];exact heap_alloc_new w _),(by simp),(by rw[hesl,hcsz];exact hle),(by
  rw[hesl];exact RepVL.newLoc (L:=L) (id:=d) tr (fun i hi=>by simp[hi]) (qfi (c:=.dd _) rfl) hflat)⟩⟩
 have hrun:(execOp a.eval ⟨some d,.makeSlice t l c,ty,pos,after,guard⟩).run P w = .ok (.value (.slice (some ⟨w.heap.size,0,none⟩) n.toNat m.toNat)) (w.alloc (.cells cells el)):=by
  simp[execOp,hev1,hev2,hr]
 refine⟨_,_,_,hrun,.inl rfl,_,F,hgn.set (v:=.sl d ei.size 0 n.toNat) (hd d rfl) ⟨_,_,rfl,by omega,hsz,.inr ⟨(by simp),(by simp[hcsz])⟩⟩,tr⟩
theorem qtn{w:World}{dT sT ty el:TypeId}{i:TypeInfo}(hu:P.underlying dT=some (.slice el))(hi:P.info? el=some i)(hs:i.size=1){base ay:Option Addr}{dLen dCap sLen sCap:Nat}{cs:List Value}
  (hl:cs.length=min sLen dLen) (hc:cs = [] \/ ∃ b off,ay=some ⟨b,off,none⟩ /\ ∀ (j:Nat) v,cs[j]?=some v->w.cell? ⟨b,off+j,none⟩=some v)
  {g o:Nat} {cur:Array Value} {t:TypeId} (hb:cs = []\/base=some ⟨g,o,none⟩) (hg:w.heap[g]?=some (.cells cur t (0,0))) (hf:o+cs.length<=cur.size) (h1:∀ v∈cs,v.oneCell'=true) :
  (Builtin.copy_ #[dT,sT] ty #[.slice base dLen dCap,.slice ay sLen sCap]).run P w = .ok (goInt cs.length) (w.setRow g (cur.toList.take o++cs++cur.toList.drop (o+cs.length)).toArray):=by
 rcases hb with rfl|rfl
 ·have hmn:min sLen dLen=0:=by simpa using hl.symm
  have hnn:Nat.min sLen dLen=0:=hmn;have hself:w.setRow g (cur.toList.take o ++ []++cur.toList.drop (o+([]:List Value).length)).toArray=w:=by
   simp only[List.append_nil,List.length_nil,Nat.add_zero,List.take_append_drop,Array.toArray_toList];exact setRow_self w g cur t (0,0) hg
  rw[hself];cases base<;>cases ay<;>simp[Builtin.copy_,run_underlying hu,Builtin.lenOf,Builtin.firstCells,sizeOf,typeInfo,hi,hs,hnn,storeCells,loadCells,loadCellsFrom]
 ·rcases hc with rfl|⟨b,off,rfl,hj⟩
  ·have hmn:min sLen dLen=0:=by simpa using hl.symm
   have hnn:Nat.min sLen dLen=0:=hmn;have hself:w.setRow g (cur.toList.take o ++ []++cur.toList.drop (o+([]:List Value).length)).toArray=w:=by
    simp only[List.append_nil,List.length_nil,Nat.add_zero,List.take_append_drop,Array.toArray_toList];exact setRow_self w g cur t (0,0) hg
   rw[hself];cases ay<;>simp[Builtin.copy_,run_underlying hu,Builtin.lenOf,Builtin.firstCells,sizeOf,typeInfo,hi,hs,hnn,storeCells,loadCells,loadCellsFrom]
  ·exact run_copy_row P w dT sT ty el g o dLen dCap ⟨b,off,none⟩ sLen sCap cur t cs hu (by simp[hi,hs]) hg hl (fun j v hv=>by rw[jM];exact hj j v hv) hf h1
theorem qto(hT:qU P T){args:Array Operand}{tys:Array TypeId}(hk:jL T e h dst .copy args tys K):∃ ws,K ws/\Out P e h ⟨dst,.call ⟨.builtin .copy,args,tys⟩,ty,pos,after,guard⟩ ws:=by
 simp only[jL]at hk;split at hk;case h_2=>exact hk.elim
 rename_i x y t u hargs htys;split at hk;case h_2=>exact hk.elim
 rename_i ei ui id sz off n v hei hui hx hy;split at hk;case h_2=>exact hk.elim
 rename_i mm es hes;obtain⟨hc,hk1⟩:=zw hk;clear hk;simp only[Bool.and_eq_true]at hc;obtain⟨hs1,hz1,hm1⟩:=hc;have hs1:=qah hs1;have hz1:=qah hz1;have hm1:=qah hm1;subst hz1 hm1;obtain⟨fs,hfs,hk⟩:=qod hk1;clear hk1;split at hk;case h_2=>exact hk.elim
 rename_i fs;obtain⟨hc,hk⟩:=zw hk;simp only[Bool.and_eq_true]at hc;obtain⟨hle,hfl⟩:=hc;have hle:=qga hle;obtain⟨el,hun,hel⟩:=qcD hT hei;obtain⟨ie,dd,hie,hdd,hsize,hbytes,_⟩:=hT el ei hel;refine⟨_,hk,?_⟩;intro σ cx r m L F st a w he hh hg hd;obtain⟨base,cap,hev,hlc,_,hb⟩:=hg.opnd (qo he hx);have hfo:∀ e∈(Els.dd fs).toV,e.length=1/\zt e=true:=qon (es:=.dd fs) hfl;have hgo:=hh _ _ hes;obtain⟨_,hlens,hrest⟩:=hg.heap.obj id _ hgo;obtain⟨ay,capy,news,hye,hcapy,hnr,hnl,hcell⟩:=qhc hh hg.heap hfs (hg.opnd (qo he hy)) (fun e he=>(hfo e he).1) (Nat.one_pos);have h1:=hnr.one (qai fun e he=>(hfo e he).2);have hfl':(Els.dd fs).toV.length=fs.length:=by simp[Els.toV,qZ]
 rw[hfl',Nat.mul_one]at hnl;rw[hfl']at hye;have hesl:(Els.dd es).toV.length=es.length:=by simp[Els.toV,qZ]
 generalize hkk:min fs.length n=k at hk ⊢;have hargs':args.map a.eval = #[.slice base n cap,a.eval y]:=by
  apply Array.ext';simp[hargs,hev]
 have htys':tys = #[t,u]:=by
  apply Array.ext';simp[htys]
 have hk0:k<=fs.length:=by omega
 have hkn:k<=n:=by omega
 have hlk:(news.take k).length=k:=by rw[List.length_take,hnl];omega
 have hsp:∀ {α:Type} (l:List α),(l.take off++([]:List α)++l.drop (off+0))=l:=fun l=>by simp
 have hfk:(fs.take k).flatten.length=k:=by
  have:=qbP (α:=D) (sz:=1) (es:=fs.take k) (fun e he=>by
   have:=(hfo (inj e) (by simp only[Els.toV,qZ,List.mem_map];exact⟨e,List.mem_of_mem_take he,rfl⟩)).1
   rwa [jl]at this)
  rw[this,List.length_take];omega
 rcases hrest with⟨hnil,hκ0⟩|⟨l,E,hl',hk',hszl,hrr⟩
 ·
  have hn0:es = []:=by
   have:=congrArg List.length hnil;rw[hesl]at this;exact List.length_eq_zero_iff.1 this
  subst hn0;have h00:off+n=0:=by simpa using hle
  have hkz:k=0:=by omega
  have hoz:off=0:=by omega
  subst hkz hoz;have hnz:n=0:=by omega
  subst hnz;have hself:(([]:List (List D)).take 0++fs.take 0++([]:List (List D)).drop (0+0)) = []:=by simp
  rw[hself];have hr:(Builtin.copy_ #[t,u] ty #[.slice base 0 cap,a.eval y]).run P w = .ok (goInt 0) w:=by
   rw[hye];cases base<;>cases ay<;>simp[Builtin.copy_,run_underlying hun,Builtin.lenOf,Builtin.firstCells,sizeOf,typeInfo,hie,<- hsize,hs1,storeCells,loadCells,loadCellsFrom]
  have hgs:Good cx r m L F (zf st (.obj id (.arr 1 (.dd [])))) a w:=by
   refine hg.same_get (fun i=>?_);simp only[zf,jq];split
   ·rename_i e;rw[e,hgo]
   ·rfl
  refine⟨goInt 0,w,_,by simp[execOp,resolve,invoke,builtin,hargs',htys',hr],.inl rfl,L,F,?_,Tr.refl F w⟩;exact hgs.wset (v:=.d (.int .i64 ((0:Nat):Int))) hd rfl
 ·have hbk:k=0\/(base=some ⟨L.ρ id,off,none⟩/\off+cap<=L.κ id):=by
   rcases hb with⟨h0,_⟩|⟨h0,h1⟩
   ·exact .inl (by omega)
   ·exact .inr ⟨by simpa using h0,by simpa using h1⟩
  rw[Nat.mul_one]at hszl hrr;rw[hesl]at hszl hrr;have hr:=qtn (P:=P) (w:=w) (ty:=ty) (dT:=t) (sT:=u) hun hie (by rw[<- hsize,hs1]) (base:=base) (ay:=ay) (dLen:=n) (dCap:=cap) (sLen:=fs.length) (sCap:=capy) (cs:=news.take k)
   (by rw[hlk,hkk]) (by
    rcases hcell with h0|⟨b,o,e1,h1⟩
    ·left
     have:fs.length=0:=by rw[<- hfl',h0];rfl
     have:k=0:=by omega
     rw[this];rfl
    ·exact .inr ⟨b,o,e1,fun j v hv=>h1 j v (by
      have hjk:j<k:=by
       have:=(List.getElem?_eq_some_iff.1 hv).1;rw[hlk]at this;exact this
      rwa [List.getElem?_take_of_lt hjk]at hv)⟩)
   (g:=L.ρ id) (o:=off) (cur:=l) (t:=E) (by
    rcases hbk with h0|h0
    ·left;rw[h0];rfl
    ·exact .inr h0.1) hl' (by rw[hlk];omega) (fun v hv=>h1 v (List.mem_of_mem_take hv))
  rw[<- hye]at hr;rw[hlk]at hr;have hL:=Array.length_toList (xs:=l);have hspl:=qax (cs:=l.toList) (l:=news.take k) (off:=off) (by rw[hlk];omega);rw[hlk]at hspl;generalize hc':(l.toList.take off++news.take k++l.toList.drop (off+k)).toArray=c' at hr;have ce:c'.toList=l.toList.take off++news.take k++l.toList.drop (off+k):=by rw[<- hc']
  have hcs':c'.size=l.size:=by rw[<- ce]at hspl;simpa using hspl
  have hfin:Good cx r m L F (zf st (.obj id (.arr 1 (.dd (es.take off++fs.take k++es.drop (off+k)))))) a (w.setRow (L.ρ id) c')/\Tr F w F (w.setRow (L.ρ id) c'):=by
   by_cases hκ:L.κ id=0
   ·
    have hlz:l.size=0:=by rw[hk',hκ]
    have hez:es = []:=List.length_eq_zero_iff.1 (by omega);subst hez;have h00:off+n=0:=by simpa using hle
    have hkz:k=0:=by omega
    have hoz:off=0:=by omega
    subst hkz hoz;have hself:(([]:List (List D)).take 0++fs.take 0++([]:List (List D)).drop (0+0)) = []:=by simp
    rw[hself];have hcl:c'=l:=by
     rw[<- hc'];simp
    rw[hcl,setRow_self w _ _ _ _ hl'];refine⟨hg.same_get (fun i=>?_),Tr.refl F w⟩;simp only[zf,jq];split
    ·rename_i e;rw[e,hgo]
    ·rfl
   ·have tr:Tr F w F (w.setRow (L.ρ id) c'):=
     .of_keep rfl rfl rfl (by simp) (fun _=>Nat.le_refl _) hg.heap.fresh fun b _ hF=>setRow_other _ _ _ _ (by rintro rfl;have:=(hg.heap.own id _ hgo hκ).1;omega)
    have hnewl:(es.take off++fs.take k++es.drop (off+k)).length=es.length:=by
     have:=qax (cs:=es) (l:=fs.take k) (off:=off) (by rw[List.length_take];omega);rw[List.length_take,Nat.min_eq_left hk0]at this;exact this
    refine hg.obj (o:=.arr 1 (.dd (es.take off++fs.take k++es.drop (off+k)))) hgo hκ (w':=w.setRow (L.ρ id) c') rfl rfl rfl (size_setRow _ _ _) (fun b hb=>setRow_other _ _ _ _ hb)
     (by rw[hl'];intro ds e;cases e) (by rw[hl'];intro lp e;cases e)
     ⟨Nat.one_pos,?_,.inr ⟨c',E,setRow_heap _ _ _ _ _ _ hl',by rw[hcs',hk'],?_,?_⟩⟩
    ·intro e he
     simp only[Els.toV,qZ,List.mem_map,List.mem_append]at he;obtain⟨q,hq,rfl⟩:=he;rcases hq with(hq|hq)|hq
     ·exact hlens _ (by simp only[Els.toV,qZ,List.mem_map];exact⟨q,List.mem_of_mem_take hq,rfl⟩)
     ·exact(hfo _ (by simp only[Els.toV,qZ,List.mem_map];exact⟨q,List.mem_of_mem_take hq,rfl⟩)).1
     ·exact hlens _ (by simp only[Els.toV,qZ,List.mem_map];exact⟨q,List.mem_of_mem_drop hq,rfl⟩)
    ·simp only[Els.toV,qZ,List.length_map,hnewl,Nat.mul_one,hcs'];omega
    ·have e0:(Els.dd (es.take off++fs.take k++es.drop (off+k))).toV.length*1=es.length:=by simp only[Els.toV,qZ,List.length_map,hnewl,Nat.mul_one]
     rw[e0,ce];refine RepVL.mono tr _ _ (fun _ _=>⟨rfl,rfl⟩) ?_;have e1:(Els.dd (es.take off++fs.take k++es.drop (off+k))).toV.flatten=(Els.dd es).toV.flatten.take off++((Els.dd fs).toV.flatten.take k)++(Els.dd es).toV.flatten.drop (off+k):=by
      have h1:=qay (es:=(Els.dd es).toV) off hlens;have h2:=qay (es:=(Els.dd fs).toV) k (fun e he=>(hfo e he).1);have h3:=qdN (es:=(Els.dd es).toV) (off+k) hlens;rw[Nat.mul_one]at h1 h2 h3;rw[<- h1,<- h2,<- h3];simp[Els.toV,qZ,List.map_take,List.map_drop]
     rw[e1];have e2:((l.toList.take off++news.take k++l.toList.drop (off+k)).take es.length)=(l.toList.take es.length).take off++news.take k++(l.toList.take es.length).drop (off+(news.take k).length):=by
      have:=qhx (l:=l.toList) (Y:=news.take k) (o:=off) (n:=es.length) (by rw[hlk];omega) (by omega);rw[hlk]at this ⊢;exact this
     rw[e2,hlk];exact((hrr.take off).append (hnr.take k)).append (hrr.drop (off+k))
  refine⟨goInt k,_,_,by simp[execOp,resolve,invoke,builtin,hargs',htys',hr],.inl rfl,L,F,?_,hfin.2⟩;exact hfin.1.wset (v:=.d (.int .i64 ((k:Nat):Int))) hd rfl
end
end Go.PX
