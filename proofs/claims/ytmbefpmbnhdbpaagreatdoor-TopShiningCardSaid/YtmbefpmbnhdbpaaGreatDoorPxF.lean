import Derived.Test.YtmbefpmbnhdbpaaGreatDoorPxE
import Derived.OrdersIn
import Derived.Scope
set_option linter.all false
namespace Go.PX
open Go.RowKit
theorem BG(v:V)(K:V->Prop):CW v K=K v:=by cases v<;>rfl
theorem JQ(v:Obj)(K:Obj->Prop):GR v K=K v:=by
 match v with
 | .box (.dd l)=>exact sZ l _
 | .box (.vv l)=>exact s3 l _
 | .arr _ (.dd _)=>rfl
 | .arr _ (.vv _)=>rfl
 | .map _=>rfl
 | .iter _ _=>rfl
 | .buf _ _=>rfl
 | .tb _ l=>exact s3 l _
 | .mit v n l u=>exact BG v fun v=>K (.mit v n l u)
theorem gI:∀ (l:Env) (K:Env->Prop),fw l K=K l
 | [],K=>rfl
 | (k,v)::r,K=>by
  show CW v (fun v=>fw r fun r=>K ((k,v)::r))=_;rw[BG,gI r]
theorem js:∀ (l:Heap) (K:Heap->Prop),iP l K=K l
 | [],K=>rfl
 | (k,v)::r,K=>by
  show GR v (fun v=>iP r fun r=>K ((k,v)::r))=_;rw[JQ,js r]
theorem oq:∀ (l:List Nat) (K:List Nat->Prop),eA l K=K l
 | [],K=>rfl
 | n::r,K=>by
  show eA r (fun r=>K (n::r))=_;rw[oq r]
theorem dG{σ:Type}:∀ (ws:List Wr) (st:St σ),(aL st ws).s=st.s
 | [],_=>rfl
 | w::r,st=>by
  rw[aL,dG r];cases w<;>rfl
theorem cO{σ:Type}(s:σ):∀ (ws:List Wr) (e:Env) (h:Heap) (K:Env->Heap->Prop),bz ws e h K=K (aL (⟨e,h,s⟩:St σ) ws).env (aL (⟨e,h,s⟩:St σ) ws).heap
 | [],e,h,K=>rfl
 | w::r,e,h,K=>by
  cases w with
  | set t v=>show fw (put e t v) (fun e'=>bz r e' h K)=_;rw[gI,cO s r];rfl
  | obj id o=>show iP (put h id o) (fun h'=>bz r e h' K)=_;rw[js,cO s r];rfl
  | new id o=>
   show fw (dv (aJ (bp id)) e) (fun e'=>iP ((id,o)::dv (Obj.aJ (bp id)) (cut h id)) fun h'=>bz r e' h' K)=_;rw[gI,js,cO s r];rfl
  | newq id o=>show iP ((id,o)::h) (fun h'=>bz r e h' K)=_;rw[js,cO s r];rfl
  | del id=>show iP (cut h id) (fun h'=>bz r e h' K)=_;rw[js,cO s r];rfl
section
variable {P : Program} {T : fA} {e : Env} {h : Heap} {dst : Option Nat} {K : List Wr -> Prop} {ty : TypeId} {pos : String} {after : Array Edge} {guard : Option (Nat × Bool)}
theorem Ds(hT:bA P T){op:Op}(hk:gW T e h dst op K):∃ ws,K ws/\Out P e h ⟨dst,op,ty,pos,after,guard⟩ ws:=by
 cases op;case move=>exact NG hk
 case assign=>exact HC hk
 case pick=>exact NI hk
 case alloc=>exact KE hT hk
 case box=>exact P8 hk
 case build=>exact KG hT hk
 case buildSlice=>exact zX hT hk
 case load=>exact NF hT hk
 case store=>exact KM hT hk
 case nilCheck=>exact Dv hk
 case binOp=>exact KF hT hk
 case unOp=>exact NJ hk
 case convert=>exact FB hT hk
 case makeFunc=>exact Dt hk
 case fieldAddr=>exact A8 hT hk
 case field=>exact KI hT hk
 case indexAddr=>exact A9 hT hk
 case index=>exact KJ hT hk
 case slice=>exact KL hT hk
 case extract=>exact FC hk
 case range=>exact KK hT hk
 case makeInterface=>exact uX hT hk
 case entry=>exact KH hk
 case typeAssert=>exact z8 hT hk
 case next=>exact NH hk
 case makeMap=>exact FD hk
 case makeSlice=>exact Ba hT hk
 case lookup=>exact HF hT hk
 case mapUpdate=>exact Bb hT hk
 case insert=>exact HE hT hk
 case mapEntry=>exact Du hT hk
 case entryStore=>exact zY hT hk
 all_goals exact(show False from hk).elim
theorem tW(hT:bA P T){b:Builtin}{args:Array Operand}{tys:Array TypeId}(hk:fH T e h dst b args tys K):∃ ws,K ws/\Out P e h ⟨dst,.call ⟨.builtin b,args,tys⟩,ty,pos,after,guard⟩ ws:=by
 cases b;case len=>exact Qa hT hk
 case min=>exact Qc hk
 case max=>exact Qb hk
 case append=>exact HB hT hk
 case copy=>exact ND hT hk
 all_goals exact(show False from hk).elim
end
section
variable {P : Program} {T : fA} {σ : Type} {Y : Hd σ} {cx : Cx σ} {r : Option Nat} {m : List Nat} {L : Loc} {F : Nat -> Nat} {a : Act} {w : World}
theorem Mu{ops:Array Oper}{e:Env}{h:Heap}{s:σ}{guard:Option (Nat×Bool)}{X Z:List Wr->Prop}(hk:nT ops.toList e guard X Z){dst:Option Nat}{op:Op}{ty:TypeId}{pos:String}{after:Array Edge}
  {st:St σ} (he:dR e st.env) (hg:Good cx r m L F st a w) :
  ∃ ws,((Region.wanted ⟨dst,op,ty,pos,after,guard⟩ (yielded ops a.tmps)=true/\X ws)\/(Region.wanted ⟨dst,op,ty,pos,after,guard⟩ (yielded ops a.tmps)=false/\Z ws)) /\
   (ws = [] \/ ∃ d v,ws = [.set d v]/\get e d=some v):=by
 unfold nT at hk;unfold Region.wanted;split at hk
 ·exact⟨[],.inl ⟨rfl,hk⟩,.inl rfl⟩
 ·rename_i j want
  split at hk;case h_2=>exact hk.elim
  rename_i d _ _ _ _ _ hj;have C4:(ops[j]?).bind (·.dst)=some d:=by
   rw[Array.getElem?_toList]at hj;rw[hj];rfl
  split at hk
  ·rename_i b hb
   obtain⟨x,hx,hr⟩:=hg.env d _ (he _ _ hb);have hr:x = .bool b:=hr;subst hr;have hy:yielded ops a.tmps j=some b:=by
    unfold yielded;rw[C4];simp[hx]
   split at hk
   ·rcases tU hk with⟨rfl,hk⟩|⟨rfl,hk⟩
    ·exact⟨_,.inl ⟨by simp[hy],hk⟩,.inr ⟨d,_,rfl,hb⟩⟩
    ·exact⟨_,.inr ⟨by simp[hy],hk⟩,.inr ⟨d,_,rfl,hb⟩⟩
   ·rcases tU hk with⟨rfl,hk⟩|⟨rfl,hk⟩
    ·exact⟨_,.inr ⟨by simp[hy],hk⟩,.inr ⟨d,_,rfl,hb⟩⟩
    ·exact⟨_,.inl ⟨by simp[hy],hk⟩,.inr ⟨d,_,rfl,hb⟩⟩
  ·rename_i hb
   obtain⟨x,hx,l,rfl,hl⟩:=hg.env d _ (he _ _ hb);have hy:yielded ops a.tmps j=none:=by
    unfold yielded;rw[C4];simp[hx]
   exact⟨[],.inr ⟨by simp[hy],hk⟩,.inl rfl⟩
  ·exact hk.elim
theorem Good.XM{e:Env}{h:Heap}{s:σ}(hg:Good cx r m L F ⟨e,h,s⟩ a w){ws:List Wr}(hw:ws = [] \/ ∃ d v,ws = [.set d v]/\get e d=some v) :
  Good cx r m L F (aL (⟨e,h,s⟩:St σ) ws) a w/\(aL (⟨e,h,s⟩:St σ) ws).heap=h:=by
 rcases hw with rfl|⟨d,v,rfl,hv⟩
 ·exact⟨hg,rfl⟩
 ·refine⟨hg.sub (e:=put e d v) (h:=h) (fun t u hu=>?_) (fun _ _ h=>h),rfl⟩
  rw[e6]at hu;split at hu
  ·rename_i e1;subst e1;cases hu;exact hv
  ·exact hu
theorem fM{d:Option Nat}(x:Value):(a.put d x).tmps.size=a.tmps.size:=by
 cases d<;>simp[Act.put]
theorem gZ{n:Nat}{f:FuncId}{vs:Array Value}{R:Ending->World->Prop}(h:CallsIn Fence.wide n P f vs w R):CallsIn (fr r) n P f vs w R:=h
theorem HT{n:Nat}{l:Nat}{f:FuncId}{tmps:Array Value}{xR body:Code}{R:Ending->World->Prop}(h:RoundIn Fence.wide n P l f tmps xR body w R):RoundIn (fr r) n P l f tmps xR body w R:=h
def Il(cx:Cx σ)(r:Option Nat)(m:List Nat)(F:Nat->Nat)(w:World)(n:Nat)(K:Env->Heap->σ->Prop):Exit->Act->World->Prop:=fun ex a' w'=>
 ∃ e' h' s' L' F',ex = .normal/\K e' h' s'/\Good cx r m L' F' ⟨e',h',s'⟩ a' w'/\Tr F w F' w'/\a'.tmps.size=n
def mu(Y:Hd σ)(cx:Cx σ)(r:Option Nat)(m:List Nat)(F:Nat->Nat)(w:World)(n:Nat)(K:Env->Heap->σ->Prop):Exit->Act->World->Prop:=fun ex a' w'=>
 Il cx r m F w n K ex a' w'\/qj Y cx r F w n ex a' w'
theorem FF{e:Env}{h:Heap}{o:Oper}{ws:List Wr}(ho:Out P e h o ws){st:St σ}(he:dR e st.env)(hh:dR h st.heap)(hg:Good cx r m L F st a w)(hd:∀ k,o.dst=some k->k<a.tmps.size)
  (vj:∀ c,o.op ≠ .defer c) {next:Act->World->Prop} {Q:Exit->Act->World->Prop} (hn:∀ x L' F' w',Good cx r m L' F' (aL st ws) (a.put o.dst x) w'->Tr F w F' w'->next (a.put o.dst x) w') :
  o.wpIn (fr r) 0 P a w next Q:=by
 obtain⟨x,w',nx,bZ,hx,L',F',dN,tr⟩:=ho cx r m L F st a w he hh hg hd;refine⟨fun _ _=>trivial,?_⟩;rw[Oper.semAt_eq _ _ _ vj,bZ];rcases hx with rfl|⟨rfl,rfl⟩
 ·exact hn x L' F' w' dN tr
 ·exact hn undef L' F' w' dN tr
theorem Ob{dst:Option Nat}{op:Op}{e:Env}{h:Heap}{s:σ}{go:Env->Heap->σ->Prop}(hc:∀ c,op ≠ .call c)(hb:∀ b t x y ty,op ≠ .binOp b t x y ty)(hn:∀ x,op ≠ .next x false)(hp:∀ x,op ≠ .panic x) :
  Gc P T Y dst op e h s go=gW T e h dst op (fun ws=>bz ws e h fun e h=>go e h s):=by
 cases op;case next x b=>
  cases b
  ·exact absurd rfl (hn _)
  ·rfl
 all_goals first|rfl|exact absurd rfl (hc _)|exact absurd rfl (hb _ _ _ _ _)|exact absurd rfl (hp _)
theorem Nt(hT:bA P T){e:Env}{op:BinOp}{t:TypeId}{x y:Operand}{neg:Bool}{ne:Prop}(hk:Dq T e op t x y=some (neg,ne)){st:St σ}(he:dR e st.env)(hg:Good cx r m L F st a w){dst:Option Nat}{ty ty':TypeId}{pos:String}{after:Array Edge}{guard:Option (Nat×Bool)} :
  ∃ b:Bool,(ne->b=false)/\(execOp a.eval ⟨dst,.binOp op t x y ty',ty,pos,after,guard⟩).run P w = .ok (.value (.bool (Cm neg b))) w:=by
 have zj:∀ {x:Value},isSlice T t=true -> ∃ el,P.underlying t=some (.slice el):=by
  intro _ h;unfold isSlice at h;split at h
  ·rename_i ti ht
   split at h
   ·rename_i el e8
    obtain⟨de,ib,fx⟩:=fK hT ht;rw[e8]at fx;exact⟨el,by rw[ib,fR fx.symm]⟩
   ·cases h
  ·cases h
 have bZ:∀ (u:Option Addr) (l c:Nat) (el:TypeId),P.underlying t=some (.slice el)->a.eval x = .slice u l c->y = .const (.slice none 0 0) ->
   ((op = .eql->(execOp a.eval ⟨dst,.binOp op t x y ty',ty,pos,after,guard⟩).run P w = .ok (.value (.bool u.isNone)) w)/\(op = .neq->(execOp a.eval ⟨dst,.binOp op t x y ty',ty,pos,after,guard⟩).run P w = .ok (.value (.bool (!u.isNone))) w)):=by
  intro u l c el hu hx hy;subst hy;have hey:a.eval (.const (.slice none 0 0)) = .slice none 0 0:=rfl;have hq:(Op.equal t (.slice u l c) (.slice none 0 0)).run P w = .ok u.isNone w:=by
   rw[Op.equal,show Op.maxDepth=9999+1 from rfl,Op.equalIn];cases u<;>simp[run_underlying hu]
  refine⟨fun ho=>?_,fun ho=>?_⟩<;>subst ho<;>simp[execOp,hx,hey,eqGuard,binOp,hq]
 have Rr:∀ {es:List (List D)},aR e x=some (.d (.vs es)) -> ∃ u l c,a.eval x = .slice u l c/\(es ≠ []->u.isNone=false):=by
  intro es hx;obtain⟨u,l,c,h1,h2,h3,h4⟩:=hg.aR (aF he hx);refine⟨u,l,c,h1,fun er=>?_⟩;obtain⟨b,off,sz,h5,_⟩:=h4 er;rw[h5];rfl
 have W9:∀ {id sz off n:Nat},aR e x=some (.sl id sz off n) -> ∃ u l c,a.eval x = .slice u l c/\(0<n->u.isNone=false):=by
  intro id sz off n hx;obtain⟨u,c,h1,h2,h3,h4⟩:=hg.aR (aF he hx);refine⟨u,n,c,h1,fun hn=>?_⟩;rcases h4 with⟨h4,_⟩|⟨h4,_⟩
  ·omega
  ·rw[h4];rfl
 unfold Dq at hk;split at hk
 ·rename_i hs hx
  cases hk;obtain⟨el,hu⟩:=zj (x:=undef) hs;obtain⟨u,l,c,h1,h2⟩:=Rr hx;exact⟨u.isNone,h2,(bZ u l c el hu h1 rfl).1 rfl⟩
 ·rename_i hs hx
  cases hk;obtain⟨el,hu⟩:=zj (x:=undef) hs;obtain⟨u,l,c,h1,h2⟩:=Rr hx;exact⟨u.isNone,h2,(bZ u l c el hu h1 rfl).2 rfl⟩
 ·rename_i hs hx
  cases hk;obtain⟨el,hu⟩:=zj (x:=undef) hs;obtain⟨u,l,c,h1,h2⟩:=W9 hx;exact⟨u.isNone,h2,(bZ u l c el hu h1 rfl).1 rfl⟩
 ·rename_i hs hx
  cases hk;obtain⟨el,hu⟩:=zj (x:=undef) hs;obtain⟨u,l,c,h1,h2⟩:=W9 hx;exact⟨u.isNone,h2,(bZ u l c el hu h1 rfl).2 rfl⟩
 ·rename_i hs hx
  cases hk;obtain⟨el,hu⟩:=zj (x:=undef) hs;have h1:a.eval x = .slice none 0 0:=hg.aR (aF he hx);exact⟨false,fun _=>rfl,(bZ none 0 0 el hu h1 rfl).1 rfl⟩
 ·rename_i hs hx
  cases hk;obtain⟨el,hu⟩:=zj (x:=undef) hs;have h1:a.eval x = .slice none 0 0:=hg.aR (aF he hx);exact⟨false,fun _=>rfl,(bZ none 0 0 el hu h1 rfl).2 rfl⟩
 ·cases hk
theorem Jk{t:TypeId}{n:String}{g:FuncId}(hm:∀ v w,(method (P.types.size+Made.depth) t v n).run P w = .ok (g,v) w)(qa:∀ (vs:Array Value) (w:World),(callFunc g vs).run P w = .ok (.enter g vs) w){a:Act}{f:Operand}{y:Value}(dV:a.eval f = .iface t y){w:World}
  {dst:Option Nat} {args:Array Operand} {tys:Array TypeId} {ty:TypeId} {pos:String} {after:Array Edge} {guard:Option (Nat×Bool)} :
  (execOp a.eval ⟨dst,.call ⟨.invoke f n,args,tys⟩,ty,pos,after,guard⟩).run P w = .ok (.enter g (#[y]++args.map a.eval)) w:=by
 have hx:(#[a.eval f]++args.map a.eval).extract 1 (#[a.eval f]++args.map a.eval).size=args.map a.eval:=by
  apply Array.ext';simp only[Array.toList_extract,Array.toList_append,Array.toList_map,Array.size_append,Array.size_map];simp[List.extract];rw[List.take_of_length_le (by simp)]
 have h0:(#[a.eval f]++args.map a.eval)[0]?=some (.iface t y):=by
  rw[<- dV,Array.getElem?_append_left (by simp)];rfl
 simp only[execOp,resolve,Sem.run_bind,Sem.run_pure,Result.andThen_ok,invoke,h0,hx,callMethod];simp[program,Sem.run,Sem.run_bind,hm,qa]
theorem Fe{e:Env}{h:Heap}{s:σ}{cx:Cx σ}{r:Option Nat}{m:List Nat}{L:Loc}{F:Nat->Nat}{a:Act}{w:World}(hg:Good cx r m L F ⟨e,h,s⟩ a w){args:Array Operand}{l':List V}(hl:et e args.toList=some l'){v:D}{y:Value}(hv:bR F w v y) :
  aq cx.yv L F w (.d v::l') (#[y]++args.map a.eval).toList:=by
 refine⟨y,args.toList.map a.eval,by simp,hv,hg.et hl⟩
theorem FV{w:World}{rv:Nat}{m:Nat}{n:Nat}{seen:Array Nat}{en:Array MapEntry}{c:Nat}{ty:TypeId}(hr:w.heap[rv]?=some (.mapIter (some m) n seen n))(hm:w.heap[m]?=some (.map en c))(hb:tM en c)(hn:en.size=n) :
  ((∀ i,i<n->seen.contains i=true)/\(∃ d,(Instr.next (.pointer (some ⟨rv,0,none⟩)) false ty).run P w = .ok (.tuple #[.bool false]) { w with drawn:=d })) \/
  (∃ (i:Nat) (e:MapEntry) (d:Nat),i<n/\seen.contains i=false/\en[i]?=some e/\(Instr.next (.pointer (some ⟨rv,0,none⟩)) false ty).run P w = .ok (.tuple #[.bool true,e.key,e.val]) { w with drawn:=d,heap:=w.heap.setIfInBounds rv (.mapIter (some m) n (seen.push i) n) }):=by
 have pW:c=n:=by rw[hb.1,hn]
 subst pW;have EU:∀ (i:Nat) (e:MapEntry),en[i]?=some e->e.born=i:=hb.2;have cR:(!seen.isEmpty && !en.isEmpty&&en.all (·.born≥c))=false:=by
  by_cases he:en.size=0
  ·have:en = #[]:=Array.eq_empty_of_size_eq_zero he
   subst this;simp
  ·have h0:en[0]?=some en[0]:=Array.getElem?_eq_getElem (by omega)
   have kC:=EU 0 _ h0;have:en.all (·.born≥c)=false:=by
    rw[Array.all_eq_false];exact⟨0,by omega,by rw[kC];simp;omega⟩
   simp[this]
 have uz:((en.filter fun e=>!seen.contains e.born).filter (·.born≥c)) = #[]:=by
  rw[Array.filter_eq_empty_iff];intro e he;obtain⟨he,_⟩:=Array.mem_filter.1 he;obtain⟨i,hi,rfl⟩:=Array.mem_iff_getElem.1 he;have:=EU i _ (Array.getElem?_eq_getElem hi);simp[this];omega
 have hold:((en.filter fun e=>!seen.contains e.born).filter (·.born<c))=en.filter fun e=>!seen.contains e.born:=by
  rw[Array.filter_eq_self];intro e he;obtain⟨he,_⟩:=Array.mem_filter.1 he;obtain⟨i,hi,rfl⟩:=Array.mem_iff_getElem.1 he;have:=EU i _ (Array.getElem?_eq_getElem hi);simp[this];omega
 generalize nG:(en.filter fun e=>!seen.contains e.born)=left at uz hold;by_cases hz:left = #[]
 ·left
  refine⟨fun i hi=>?_,w.drawn,?_⟩
  ·have he:en[i]?=some en[i]:=Array.getElem?_eq_getElem (by omega)
   have mf:=EU i _ he
   cases hs:seen.contains i with
   | true=>rfl
   | false=>
    exfalso;have:en[i]∈en.filter fun e=>!seen.contains e.born:=Array.mem_filter.2 ⟨Array.getElem_mem _,by rw[mf,hs];rfl⟩;rw[nG,hz]at this;simp at this
  ·simp only[Instr.next,getObj,Sem.run_bind,Sem.run,hr,Result.andThen,hm]
   simp only[cR,nG,hold,uz];subst hz;simp[choose,Sem.run,Sem.run_bind,Question.forced]
 ·right
  have vI:0<left.size:=Nat.pos_of_ne_zero fun h=>hz (Array.eq_empty_of_size_eq_zero h);have JZ:left.isEmpty=false:=by
   rw[Array.isEmpty_eq_false_iff];exact hz
  have pick:∀ (j d:Nat),j<left.size -> ∃ (i:Nat) (e:MapEntry),i<c/\seen.contains i=false/\en[i]?=some e/\left[j]?=some e/\e.born=i:=by
   intro j d hj;have qb:left[j]∈(en.filter fun e=>!seen.contains e.born):=by rw[nG];exact Array.getElem_mem _
   obtain⟨qb,hs⟩:=Array.mem_filter.1 qb;obtain⟨i,hi,he⟩:=Array.mem_iff_getElem.1 qb;have mf:=EU i _ (Array.getElem?_eq_getElem hi);refine⟨i,en[i],by omega,?_,Array.getElem?_eq_getElem hi,?_,mf⟩
   ·rw[<- he,mf]at hs
    simpa using hs
   ·rw[he];exact Array.getElem?_eq_getElem hj
  have fin:∀ (j d:Nat),j<left.size->((Instr.next (.pointer (some ⟨rv,0,none⟩)) false ty).run P w=(match ((#[]:Array (Option MapEntry))++(left ++ #[]).map some)[j]? with
    | some (some e)=>(do setObj rv (.mapIter (some m) c (seen.push e.born) c);pure (.tuple #[.bool true,e.key,e.val]):Sem Value)
    | some none=>pure (.tuple #[.bool false])
    | none => stuck "Next: no such candidate").run P { w with drawn := d }) -> ∃ (i : Nat) (e : MapEntry) (d : Nat), i < c /\ seen.contains i = false /\ en[i]? = some e /\ (Instr.next (.pointer (some ⟨rv, 0, none⟩)) false ty).run P w = .ok (.tuple #[.bool true, e.key, e.val]) { w with drawn := d, heap := w.heap.setIfInBounds rv (.mapIter (some m) c (seen.push i) c) } := by
   intro j d hj bZ;obtain⟨i,e,h1,h2,h3,h4,h5⟩:=pick j d hj;refine⟨i,e,d,h1,h2,h3,?_⟩;rw[bZ];have:((#[]:Array (Option MapEntry))++(left ++ #[]).map some)[j]?=some (some e):=by simp[h4]
   simp only[this,h5];simp[setObj,Sem.run,Sem.run_bind,hr]
  by_cases hf:(Question.mapNext left.size).forced=true
  ·refine fin 0 w.drawn vI ?_
   simp only[Instr.next,getObj,Sem.run_bind,Sem.run,hr,Result.andThen,hm];simp only[cR,nG,hold,uz,JZ];simp[choose,Sem.run,Sem.run_bind,hf];rfl
  ·refine fin (w.tape w.drawn (.mapNext left.size)%left.size) (w.drawn+1) (Nat.mod_lt _ vI) ?_
   simp only[Instr.next,getObj,Sem.run_bind,Sem.run,hr,Result.andThen,hm];simp only[cR,nG,hold,uz,JZ];simp[choose,Sem.run,Sem.run_bind,hf,Question.cut];rfl
theorem Hv{dst:Option Nat}{x:Operand}{ty:TypeId}{pos:String}{after:Array Edge}{guard:Option (Nat×Bool)}{e:Env}{h:Heap}{s:σ}{go:Env->Heap->σ->Prop}{L:Loc}{F:Nat->Nat}{a:Act}{w:World}
  (hg:Good cx r m L F ⟨e,h,s⟩ a w) (C0:∀ d,dst=some d->d<a.tmps.size) (hk:Ns dst x e h s go)
  {next:Act->World->Prop} {Q:Exit->Act->World->Prop} (cI:∀ e' h' s' L' F' a' w',Good cx r m L' F' ⟨e',h',s'⟩ a' w'->a'.tmps.size=a.tmps.size->Tr F w F' w'->go e' h' s'->next a' w') :
  Oper.wpIn (fr r) 0 P ⟨dst,.next x false,ty,pos,after,guard⟩ a w next Q:=by
 unfold Ns at hk;split at hk;case h_2=>exact hk.elim
 rename_i id hx;split at hk;case h_2=>exact hk.elim
 rename_i v n todo cur hid;split at hk;case h_2=>exact hk.elim
 rename_i cY wU;obtain⟨hn,h0,h1⟩:=hk;have dV:a.eval x = .pointer (some ⟨L.ρ id,0,none⟩):=hg.aR hx;obtain⟨rb,seen,hv,hb,M6,_⟩:=hg.heap.obj id _ hid;obtain⟨en,c,hm,hr,sg⟩:=Nh hg (fun _ _ h=>h) wU hv;have dD:en.size=n:=by rw[<- hn];simpa using cf.get hr
 refine⟨fun _ _=>trivial,?_⟩;rw[Oper.semAt_eq _ _ _ (fun c e=>by cases e)];rcases FV (P:=P) (ty:=ty) hb hm sg dD with⟨cR,d,bZ⟩|⟨i,AR,d,hi,hs,IS,bZ⟩
 ·have Y4:todo = []:=by
   rw[List.eq_nil_iff_forall_not_mem];intro i hi;obtain⟨h2,h3⟩:=(M6 i).1 hi;rw[cR i h2]at h3;cases h3
  have hk:=h0 Y4;have E4:(execOp a.eval ⟨dst,.next x false,ty,pos,after,guard⟩).run P w = .ok (.value (.tuple #[.bool false])) { w with drawn:=d }:=by simp[execOp,dV,bZ]
  rw[E4];have dX:=hg.same (w':={ w with drawn:=d }) rfl rfl rfl rfl;have iK:=dX.bw (d:=dst) (v:=.d (.tup [.bool false])) (x:=.tuple #[.bool false]) C0 ⟨_,rfl,_,_,rfl,rfl,rfl⟩;simp only at hk;rw[cO s]at hk;have mM:(aL (⟨e,h,s⟩:St σ) (bw dst (.d (.tup [.bool false])))).s=s:=dG _ _;generalize (aL (⟨e,h,s⟩:St σ) (bw dst (.d (.tup [.bool false]))))=pZ at hk iK mM;obtain⟨e2,h2,s2⟩:=pZ;simp only at hk mM;subst mM;exact cI _ _ _ _ _ _ _ iK (fM _) (Tr.drew d) hk
 ·have iC:i∈todo:=(M6 i).2 ⟨hi,hs⟩
  obtain⟨k,u,YZ,sy,hur⟩:∃ k u,cY[i]?=some (k,u)/\bR F w k AR.key/\bR F w u AR.val:=cf.at hr (by simpa using IS);have hk:=h1 i (k,u) iC YZ;simp only at hk;have E4:(execOp a.eval ⟨dst,.next x false,ty,pos,after,guard⟩).run P w = .ok (.value (.tuple #[.bool true,AR.key,AR.val])) { w with drawn:=d,heap:=w.heap.setIfInBounds (L.ρ id) (.mapIter (some rb) n (seen.push i) n) }:=by simp[execOp,dV,bZ]
  rw[E4];have dX:=hg.same (w':={ w with drawn:=d }) rfl rfl rfl rfl;have dh:=(Array.getElem?_eq_some_iff.1 hb).1;have QA:Tr F w F { w with drawn:=d }:=Tr.drew d;have qd:Tr F w F { w with drawn:=d,heap:=w.heap.setIfInBounds (L.ρ id) (.mapIter (some rb) n (seen.push i) n) }:=by
   refine .jc rfl rfl rfl (by simp) (fun _=>Nat.le_refl _) hg.heap.fresh fun b _ hF=>?_;have:L.ρ id≠b:=by rintro rfl;have:=(hg.heap.own id _ hid trivial).1;omega
   simp[Array.getElem?_setIfInBounds_ne this]
  obtain⟨g1,g2⟩:=dX.obj (o:=.mit v n (todo.filter fun j=>!Nat.beq j i) (some i)) (id:=id) hid trivial (w':={ w with drawn:=d,heap:=w.heap.setIfInBounds (L.ρ id) (.mapIter (some rb) n (seen.push i) n) }) rfl rfl rfl (by simp) (fun y hy=>by simp[Array.getElem?_setIfInBounds_ne (Ne.symm hy)])
   (by intro ds;show w.heap[L.ρ id]?≠_;rw[hb];intro e;cases e) (by intro lp;show w.heap[L.ρ id]?≠_;rw[hb];intro e;cases e)
   ⟨rb,seen.push i,br.mono qd v _ (fun _ _=>⟨rfl,rfl⟩) hv,by simp[Array.getElem?_setIfInBounds,dh],fun j=>by
    have EZ:Nat.beq j i=false↔j≠i:=by
     rw[Bool.eq_false_iff];exact⟨fun h e=>h (by subst e;simp),fun h e=>h (Nat.eq_of_beq_eq_true e)⟩
    simp only[List.mem_filter,M6,Bool.not_eq_true',EZ,Array.contains_push,Bool.or_eq_false_iff,beq_eq_false_iff_ne];constructor
    ·rintro ⟨⟨p1,p2⟩,p3⟩;exact⟨p1,p2,fun e=>p3 e⟩
    ·rintro ⟨p1,p2,p3⟩;exact⟨⟨p1,p2⟩,fun e=>p3 e⟩,fun j ej=>by cases ej;simp⟩
  have iK:=g1.bw (d:=dst) (v:=.d (.tup [.bool true,k,u])) (x:=.tuple #[.bool true,AR.key,AR.val]) C0 ⟨_,rfl,_,_,rfl,rfl,_,_,rfl,bR.mono qd _ _ sy,_,_,rfl,bR.mono qd _ _ hur,rfl⟩;rw[cO s]at hk;have mM:(aL (⟨e,h,s⟩:St σ) (.obj id (.mit v n (todo.filter fun j=>!Nat.beq j i) (some i))::bw dst (.d (.tup [.bool true,k,u])))).s=s:=dG _ _;have key:∀ (pZ:St σ),Good cx r m L F pZ (a.put dst (.tuple #[.bool true,AR.key,AR.val])) { w with drawn:=d,heap:=w.heap.setIfInBounds (L.ρ id) (.mapIter (some rb) n (seen.push i) n) }->pZ.s=s->go pZ.env pZ.heap s->next (a.put dst (.tuple #[.bool true,AR.key,AR.val])) { w with drawn:=d,heap:=w.heap.setIfInBounds (L.ρ id) (.mapIter (some rb) n (seen.push i) n) }:=by
   rintro ⟨e2,h2,s2⟩ q1 q2 q3;simp only at q2 q3;subst q2;exact cI _ _ _ _ _ _ _ q1 (fM _) qd q3
  exact key _ iK mM hk
theorem tG(hT:bA P T)(hY:cC P Y cx){ops:Array Oper}{i:Nat}{dst:Option Nat}{op:Op}{ty:TypeId}{pos:String}{after:Array Edge}{guard:Option (Nat×Bool)}(h0:ops[i]?=some ⟨dst,op,ty,pos,after,guard⟩){e:Env}{h:Heap}{s:σ}{go:Env->Heap->σ->Prop}{L:Loc}{F:Nat->Nat}{a:Act}{w:World}
  (hg:Good cx r m L F ⟨e,h,s⟩ a w) (C0:∀ d,dst=some d->d<a.tmps.size)
  (hk:nT ops.toList e guard (fun w=>bz w e h fun e h=>Gc P T Y dst op e h s go) (fun w=>bz w e h fun e h=>bz (bw dst (.d (.tup []))) e h fun e h=>go e h s))
  {next:Act->World->Prop} {Q:Exit->Act->World->Prop} (cI:∀ e' h' s' L' F' a' w',Good cx r m L' F' ⟨e',h',s'⟩ a' w'->a'.tmps.size=a.tmps.size->Tr F w F' w'->go e' h' s'->next a' w') (Pn:∀ e a' w',qj Y cx r F w a.tmps.size e a' w'->Q e a' w'):wpOpIn (fr r) 0 P ops Q i next a w:=by
  simp only[wpOpIn,h0];obtain⟨YF,hgw,G4⟩:=Mu (s:=s) (h:=h) (dst:=dst) (op:=op) (ty:=ty) (pos:=pos) (after:=after) hk (fun _ _ h=>h) hg;clear hk;obtain⟨dX,EY⟩:=hg.XM G4;rcases hgw with⟨hw,hk⟩|⟨hw,hk⟩
  ·rw[hw]
   simp only[if_true];rw[cO s]at hk;have Lm:(aL (⟨e,h,s⟩:St σ) YF).s=s:=dG _ _;generalize (aL (⟨e,h,s⟩:St σ) YF)=u6 at hk dX Lm;obtain⟨e1,h1,s1⟩:=u6;simp only at hk Lm;subst Lm;have fin:∀ {o:Oper} {ws:List Wr},o=⟨dst,op,ty,pos,after,guard⟩->Out P e1 h1 o ws->bz ws e1 h1 (fun e h=>go e h s1)->(∀ c,op ≠ .defer c) ->
     Oper.wpIn (fr r) 0 P ⟨dst,op,ty,pos,after,guard⟩ a w next Q:=by
    intro o ws ho fQ hk vj;subst ho;refine FF fQ (st:=⟨e1,h1,s1⟩) (fun _ _ h=>h) (fun _ _ h=>h) dX C0 vj fun x L' F' w' dN pN=>?_;rw[cO s1]at hk;have mM:(aL (⟨e1,h1,s1⟩:St σ) ws).s=s1:=dG _ _;generalize (aL (⟨e1,h1,s1⟩:St σ) ws)=pZ at hk dN mM;obtain⟨e2,h2,s2⟩:=pZ;simp only at hk mM;subst mM;exact cI _ _ _ _ _ _ _ dN (fM _) pN hk
   by_cases eh:∃ c,op = .call c
   ·obtain⟨⟨callee,args,tys⟩,rfl⟩:=eh
    cases callee with
    | builtin b=>
     obtain⟨ws,hk,fQ⟩:=tW (P:=P) (e:=e1) (h:=h1) (dst:=dst) (b:=b) (args:=args) (tys:=tys) (K:=fun ws=>bz ws e1 h1 fun e h=>go e h s1) (ty:=ty) (pos:=pos) (after:=after) (guard:=guard) hT hk;exact fin rfl fQ hk (fun c e=>by cases e)
    | invoke f n=>
     have hk:TD P Y dst f n args.toList e1 h1 s1 go:=hk;unfold TD at hk;split at hk;case h_2=>exact hk.elim
     rename_i t v l' hf zd;obtain⟨g,hm,hk⟩:=hk;obtain⟨qa,eh⟩:=hk;obtain⟨y,dV,hv⟩:=dX.aR hf;have dM:=Fe dX zd hv;have eh:=eh cx hY r m L F a w (#[y]++args.map a.eval) dX C0 dM;have bZ:=Jk (P:=P) hm qa dV (w:=w) (dst:=dst) (args:=args) (tys:=tys) (ty:=ty) (pos:=pos) (after:=after) (guard:=guard);refine⟨fun _ _=>trivial,?_⟩;rw[Oper.semAt_eq _ _ _ (fun c e=>by cases e),bZ,Oper.uponIn_enter];refine⟨(fun h=>by cases h),(gZ eh).mono ?_⟩;rintro en w' (⟨x,rfl,st',L',F',nq,dN,pN⟩|⟨pv,pe,ph,ps,L',F',rfl,hy,Pa,QB⟩);case inr=>exact Pn _ _ _ ⟨pv,pe,ph,ps,m,L',F',rfl,hy,Pa,QB,rfl⟩
     obtain⟨e2,h2,s2⟩:=st';exact cI _ _ _ _ _ _ _ dN (fM _) pN nq
    | value f=>
     have hk:LX P Y dst f args.toList e1 h1 s1 (go):=hk;unfold LX at hk;have call:∀ (g:FuncId) (Eo:List V) (lc:Array Value) (l':List V),et e1 args.toList=some l'->a.eval f = .func (.func g) #[] lc->aq cx.yv L F w Eo lc.toList ->
       eg P Y ⟨e1,h1,s1⟩ dst g (l'++Eo) (fun|⟨e,h,s⟩=>go e h s) ->
       Oper.wpIn (fr r) 0 P ⟨dst,.call ⟨.value f,args,tys⟩,ty,pos,after,guard⟩ a w next Q:=by
      intro g Eo lc l' zd dV j6 hc;obtain⟨qa,eh⟩:=hc;have dM:aq cx.yv L F w (l'++Eo) (args.map a.eval++lc).toList:=by
       simpa using (dX.et zd).append j6
      have eh:=eh cx hY r m L F a w (args.map a.eval++lc) dX C0 dM;have bZ:(execOp a.eval ⟨dst,.call ⟨.value f,args,tys⟩,ty,pos,after,guard⟩).run P w = .ok (.enter g (args.map a.eval++lc)) w:=by
       simp[execOp,resolve,Deferred.ofValue,dV,invoke,qa]
      refine⟨fun _ _=>trivial,?_⟩;rw[Oper.semAt_eq _ _ _ (fun c e=>by cases e),bZ,Oper.uponIn_enter];refine⟨(fun h=>by cases h),(gZ eh).mono ?_⟩;rintro en w' (⟨x,rfl,st',L',F',nq,dN,pN⟩|⟨pv,pe,ph,ps,L',F',rfl,hy,Pa,QB⟩);case inr=>exact Pn _ _ _ ⟨pv,pe,ph,ps,m,L',F',rfl,hy,Pa,QB,rfl⟩
      obtain⟨e2,h2,s2⟩:=st';exact cI _ _ _ _ _ _ _ dN (fM _) pN nq
     split at hk
     ·rename_i g bc l' hf zd
      obtain⟨lc,dV,j6⟩:=dX.aR hf;exact call g (inj bc) lc l' zd dV (aq.inj.2 j6) hk
     ·rename_i g bc l' hf zd
      obtain⟨lc,dV,j6⟩:=dX.aR hf;exact call g bc lc l' zd dV j6 hk
     ·rename_i g first l' hf zd
      obtain⟨lf,dV,SR⟩:=dX.aR hf;obtain⟨qa,eh⟩:=hk;have dM:aq cx.yv L F w (inj first++l') (lf++args.map a.eval).toList:=by
       simpa using (aq.inj.2 SR).append (dX.et zd)
      have eh:=eh cx hY r m L F a w (lf++args.map a.eval) dX C0 dM;have bZ:(execOp a.eval ⟨dst,.call ⟨.value f,args,tys⟩,ty,pos,after,guard⟩).run P w = .ok (.enter g (lf++args.map a.eval)) w:=by
       simp[execOp,resolve,Deferred.ofValue,dV,invoke,qa]
      refine⟨fun _ _=>trivial,?_⟩;rw[Oper.semAt_eq _ _ _ (fun c e=>by cases e),bZ,Oper.uponIn_enter];refine⟨(fun h=>by cases h),(gZ eh).mono ?_⟩;rintro en w' (⟨x,rfl,st',L',F',nq,dN,pN⟩|⟨pv,pe,ph,ps,L',F',rfl,hy,Pa,QB⟩);case inr=>exact Pn _ _ _ ⟨pv,pe,ph,ps,m,L',F',rfl,hy,Pa,QB,rfl⟩
      obtain⟨e2,h2,s2⟩:=st';exact cI _ _ _ _ _ _ _ dN (fM _) pN nq
     ·rename_i l' hf zd
      obtain⟨lp,Gw,dV⟩:=dX.aR hf;obtain⟨hc⟩:=hk;have dM:aq cx.yv L F w l' (args.map a.eval).toList:=by simpa using dX.et zd
      obtain⟨fn,tmps,xR,body,E4,Ti⟩:=hc cx hY lp Gw r m L F a w (args.map a.eval) dX C0 dM;have bZ:(execOp a.eval ⟨dst,.call ⟨.value f,args,tys⟩,ty,pos,after,guard⟩).run P w = .ok (.round lp fn tmps xR body) w:=by
       simp[execOp,resolve,Deferred.ofValue,dV,invoke,E4]
      refine⟨fun _ _=>trivial,?_⟩;rw[Oper.semAt_eq _ _ _ (fun c e=>by cases e),bZ,Oper.uponIn_round];refine⟨(fun h=>by cases h),(HT Ti).mono ?_⟩;rintro en w' ⟨x,rfl,st',L',F',nq,dN,pN⟩;obtain⟨e2,h2,s2⟩:=st';exact cI _ _ _ _ _ _ _ dN (fM _) pN nq
     ·exact hk.elim
   ·by_cases Wj:∃ b t x y ty,op = .binOp b t x y ty
    ·obtain⟨b,t,x,y,ty',rfl⟩:=Wj
     have hk:(match Dq T e1 b t x y with
      | some (neg,ne)=>UN neg ne fun b=>bz (bw dst (.d (.bool b))) e1 h1 fun e h=>go e h s1
      | none=>gW T e1 h1 dst (.binOp b t x y ty') fun ws=>bz ws e1 h1 fun e h=>go e h s1):=hk
     split at hk
     ·rename_i neg ne hn
      obtain⟨hk⟩:=hk;obtain⟨bb,nW,bZ⟩:=Nt (P:=P) hT hn (st:=⟨e1,h1,s1⟩) (fun _ _ h=>h) dX (dst:=dst) (ty:=ty) (ty':=ty') (pos:=pos) (after:=after) (guard:=guard);have hk:=hk bb nW;have iK:=dX.bw (d:=dst) (v:=.d (.bool (Cm neg bb))) (x:=.bool (Cm neg bb)) C0 rfl;refine⟨fun _ _=>trivial,?_⟩;rw[Oper.semAt_eq _ _ _ (fun c e=>by cases e),bZ];rw[cO s1]at hk;have mM:(aL (⟨e1,h1,s1⟩:St σ) (bw dst (.d (.bool (Cm neg bb))))).s=s1:=dG _ _;generalize (aL (⟨e1,h1,s1⟩:St σ) (bw dst (.d (.bool (Cm neg bb)))))=pZ at hk iK mM;obtain⟨e2,h2,s2⟩:=pZ;simp only at hk mM;subst mM;exact cI _ _ _ _ _ _ _ iK (fM _) (Tr.refl F w) hk
     ·obtain⟨ws,hk,fQ⟩:=Ds (P:=P) (ty:=ty) (pos:=pos) (after:=after) (guard:=guard) hT hk
      exact fin rfl fQ hk (fun c e=>by cases e)
    by_cases sA:∃ x,op = .next x false
    ·obtain⟨x,rfl⟩:=sA
     exact Hv (P:=P) (ty:=ty) (pos:=pos) (after:=after) (guard:=guard) dX C0 hk cI
    by_cases Ri:∃ x,op = .panic x
    ·obtain⟨x,rfl⟩:=Ri
     have hk:TZ Y x e1 h1 s1:=hk;unfold TZ at hk;split at hk;case h_2=>exact hk.elim
     rename_i t k n hx;have dV:a.eval x = .iface t (.int k n):=by
      obtain⟨y,h2,h3⟩:=dX.aR hx;have h3:y = .int k n:=h3;rw[h2,h3]
     refine⟨fun _ _=>trivial,?_⟩;have bZ:(execOp a.eval ⟨dst,.panic x,ty,pos,after,guard⟩).run P w = .halt (.panic (.iface t (.int k n))) w:=by
      simp[execOp,dV,Instr.panic,goPanic]
     rw[Oper.semAt_eq _ _ _ (fun c e=>by cases e),bZ];exact Pn _ _ _ ⟨_,e1,h1,s1,m,L,F,rfl,hk,dX,Tr.refl F w,rfl⟩
    rw[Ob (fun c hc=>eh ⟨c,hc⟩) (fun b t x y ty hc=>Wj ⟨b,t,x,y,ty,hc⟩) (fun x hc=>sA ⟨x,hc⟩) (fun x hc=>Ri ⟨x,hc⟩)]at hk;have vj:∀ c,op ≠ .defer c:=fun c hc=>by subst hc;exact hk
    obtain⟨ws,hk,fQ⟩:=Ds (P:=P) (ty:=ty) (pos:=pos) (after:=after) (guard:=guard) hT hk;exact fin rfl fQ hk vj
  ·rw[hw]
   simp only[Bool.false_eq_true,if_false];refine⟨fun _ _=>trivial,?_⟩;rw[cO s]at hk;have Lm:(aL (⟨e,h,s⟩:St σ) YF).s=s:=dG _ _;generalize (aL (⟨e,h,s⟩:St σ) YF)=u6 at hk dX Lm;obtain⟨e1,h1,s1⟩:=u6;simp only at hk Lm;subst Lm;rw[cO s1]at hk;have iK:=dX.bw (d:=dst) (v:=.d (.tup [])) (x:=undef) C0 ⟨#[],rfl,rfl⟩;have mM:(aL (⟨e1,h1,s1⟩:St σ) (bw dst (.d (.tup [])))).s=s1:=dG _ _;generalize (aL (⟨e1,h1,s1⟩:St σ) (bw dst (.d (.tup []))))=pZ at hk iK mM;obtain⟨e2,h2,s2⟩:=pZ;simp only at hk mM;subst mM;exact cI _ _ _ _ _ _ _ iK (fM _) (Tr.refl F w) hk
theorem rH(hT:bA P T)(hY:cC P Y cx){ops:Array Oper}{F0:Nat->Nat}{w0:World}{n0:Nat}:∀ (l:List Oper) (i:Nat) (hl:∀ j,l[j]?=ops[i+j]?) {e:Env} {h:Heap} {s:σ} {K:Env->Heap->σ->Prop} {L:Loc} {F:Nat->Nat} {a:Act} {w:World},
  Good cx r m L F ⟨e,h,s⟩ a w->a.tmps.size=n0->(∀ o∈l,∀ d,o.dst=some d->d<n0)->Tr F0 w0 F w->wpOps P T Y ops.toList l e h s K ->
  wpOpsIn (fr r) 0 P ops (mu Y cx r m F0 w0 n0 K) (List.range' i l.length) a w
 | [],i,hl,e,h,s,K,L,F,a,w,hg,hs,hd,tr,hk=>.inl ⟨e,h,s,L,F,rfl,hk,hg,tr,hs⟩
 | ⟨dst,op,ty,pos,after,guard⟩::l,i,hl,e,h,s,K,L,F,a,w,hg,hs,hd,tr,hk=>by
  rw[wpOps_cons]at hk;have h0:ops[i]?=some ⟨dst,op,ty,pos,after,guard⟩:=by simpa using (hl 0).symm
  have lH:∀ j,l[j]?=ops[i+1+j]?:=fun j=>by have:=hl (j+1);simpa[Nat.add_assoc,Nat.add_comm 1 j]using this
  have C0:∀ d,dst=some d->d<a.tmps.size:=fun d Ws=>by rw[hs];exact hd _ (List.mem_cons_self ..) d Ws
  have BK:∀ o∈l,∀ d,o.dst=some d->d<n0:=fun o ho=>hd o (List.mem_cons_of_mem _ ho);rw[List.length_cons,List.range'_succ,wpOpsIn_cons];exact tG hT hY h0 hg C0 hk (fun e' h' s' L' F' a' w' dN Tk pN nq=>rH hT hY l (i+1) lH dN (Tk.trans hs) BK (Tr.trans tr pN) nq) fun e' a' w' hp=>.inr (hp.trans tr hs)
end
section
variable {F : Fence} {n : Nat} {P : Program} {Q : Exit -> Act -> World -> Prop} {a : Act} {w : World} {b : Frame} {k : List Item} {cs : List Frame}
theorem jD{c:Code}:step P (lone (b.atR a (.code (.scope c)::k)) cs w) = .next (lone (b.atR a (.code c :: .inScope c::k)) cs w):=
 step_lone_go (by simp[stepG,stepG.exec,Frame.atR])
theorem Be{c:Code}:step P (lone (b.atR a (.inScope c::k)) cs w) = .next (lone (b.atR a k) cs w):=
 step_lone_go (by simp[stepG,stepG.exec,Frame.atR])
theorem Ie{c:Code}(h:c.wpIn F n P (Exit.noGoto Q) a w):(Code.scope c).wpIn F n P Q a w:=by
 intro b k cs hro hb hr;have h0:(lone (b.atR a (.code (.scope c)::k)) cs w).fenced P F:=fenced_calm hb hr rfl;obtain⟨e,a₁,w₁,hq,JV⟩:=h b (.inScope c::k) cs hro hb hr
 cases e with
 | normal=>exact⟨.normal,a₁,w₁,hq,.head h0 jD (StepsIn.trans JV (.one (fenced_calm hb hr rfl) Be))⟩
 | exit pz=>
  have hx:exitTo pz (.inScope c::k)=exitTo pz k:=by simp[exitTo]
  exact⟨.exit pz,a₁,w₁,hq,fun k' hk=>.head h0 jD (JV.1 k' (by rw[hx];exact hk)),
   fun J8 hk=>let ⟨k₁,h1,h2⟩:=JV.2 J8 (by rw[hx];exact hk);⟨k₁,h1,.head h0 jD h2⟩⟩
 | goto l=>exact hq.elim
 | ret=>exact⟨_,a₁,w₁,hq,.of_steps (.one h0 jD) JV⟩
 | panic ch=>exact⟨_,a₁,w₁,hq,.of_steps (.one h0 jD) JV⟩
 | outgrown=>exact⟨_,a₁,w₁,hq,.of_steps (.one h0 jD) JV⟩
end
def Lt(P:Program)(T:fA)(ops:Array Oper)(rt:RT):Prop:=
 ∀ {σ:Type} (cx:Cx σ),oT P cx -> ∀ (r:Option Nat) (m:List Nat) (L:Loc) (F:Nat->Nat) (e:Env) (h:Heap) (s:σ) (a:Act) (w:World) (K:Env->Heap->Prop),
  Good cx r m L F ⟨e,h,s⟩ a w->(∀ o∈ops.toList,∀ d,o.dst=some d->d<a.tmps.size)->wK rt.made e h (fun e h=>Jr P T rt.made ops.toList (ops.toList.zip rt.jV) [] e h K) ->
  ∀ id,(Code.region id ops true).wpIn (fr r) 0 P (Il cx r m F w a.tmps.size fun e h s'=>K e h/\s'=s) a w
def dr(P:Program)(T:fA)(ft:FT):Code->Prop
 | .region id ops draw=>draw=true -> ∀ rt,get ft.tb id=some rt->Lt P T ops rt
 | .seq a b=>dr P T ft a/\dr P T ft b
 | .cond _ a b=>dr P T ft a/\dr P T ft b
 | .block _ a=>dr P T ft a
 | .loop a=>dr P T ft a
 | .scope a=>dr P T ft a
 | .rangeFunc _ _ a b=>dr P T ft a/\dr P T ft b
 | _=>True
theorem eC{α:Type}(l:List Nat)(t:xA α):dR (bh l t) t:=by
 induction t with
 | nil=>exact fun _ _ h=>h
 | cons kv r ih=>
  obtain⟨k,v⟩:=kv;intro s u hu;simp only[bh]at hu;split at hu
  ·simp only[get]at hu ⊢
   split at hu
   ·exact hu
   ·exact ih s u hu
  ·rename_i hk
   have key:∀ (t:xA α) (s:Nat) (u:α),get (bh l t) s=some u->D8 l s=true:=by
    intro t
    induction t with
    | nil=>intro s u h;cases h
    | cons kv r ih=>
     obtain⟨k,v⟩:=kv;intro s u h;simp only[bh]at h;split at h
     ·rename_i hk
      simp only[get]at h;split at h
      ·rename_i he;have:=Nat.eq_of_beq_eq_true he;subst this;exact hk
      ·exact ih s u h
     ·exact ih s u h
   have hs:=key r s u hu;simp only[get];split
   ·rename_i he
    have:=Nat.eq_of_beq_eq_true he;subst this;rw[hs]at hk;cases hk
   ·exact ih s u hu
section
variable {P : Program} {T : fA} {ft : FT} {σ : Type} {Y : Hd σ}
theorem oH{n:Nat}{id:Nat}{ops:Array Oper}{draw:Bool}(h:codeOk n (.region id ops draw)=true):∀ o∈ops.toList,∀ d,o.dst=some d->d<n:=by
 intro o ho d hd;have:=List.all_eq_true.1 (show ops.toList.all _=true from h) o ho;rw[hd]at this;simpa using this
theorem eD(hT:bA P T):∀ (c:Code),dr P T ft c -> ∀ (st:St σ) (K:fu->St σ->Prop),Ct P T ft Y c st K->Gs P Y c st K
 | .skip,_,st,K,h=>fun cx hY r m L F a w hg hc=>wpIn_skip (.inl ⟨.normal,st,m,L,F,rfl,h,hg,Tr.refl F w,rfl⟩)
 | .exit i,_,st,K,h=>fun cx hY r m L F a w hg hc=>wpIn_exit (.inl ⟨.exit i,st,m,L,F,rfl,h,hg,Tr.refl F w,rfl⟩)
 | .ret,_,st,K,h=>fun cx hY r m L F a w hg hc=>wpIn_ret (.inl ⟨.ret,st,m,L,F,rfl,h,hg,Tr.refl F w,rfl⟩)
 | .label l,_,st,K,h=>fun cx hY r m L F a w hg hc=>wpIn_label (.inl ⟨.normal,st,m,L,F,rfl,h,hg,Tr.refl F w,rfl⟩)
 | .goto l,_,st,K,h=>False.elim h
 | .refuse y,_,st,K,h=>False.elim h
 | .loop c,_,st,K,h=>by obtain⟨h⟩:=(show Ec P ft Y c st K from h);exact h
 | .rangeFunc g ps a b,_,st,K,h=>by obtain⟨h⟩:=(show kc P ft Y g ps a b st K from h);exact h
 | .scope c,hD,st,K,h=>fun cx hY r m L F a w hg hc=>by
  have:=eD hT c hD st K h cx hY r m L F a w hg hc;exact Ie (wpIn_mono this fun ex a' w' hq=>by
   rcases hq with⟨e',st',m',L',F',rfl,hk⟩|hp
   ·cases e'<;>exact .inl ⟨_,st',m',L',F',rfl,hk⟩
   ·have J7:=hp
    obtain⟨v,pe,ph,ps,m',L',F',rfl,_⟩:=hp;exact .inr J7)
 | .seq x y,hD,st,K,h=>fun cx hY r m L F a w hg hc=>by
  simp only[codeOk,Bool.and_eq_true]at hc;have:=eD hT x hD.1 st _ h cx hY r m L F a w hg hc.1;refine wpIn_seq (wpIn_mono this fun ex a' w' hq=>?_);rcases hq with⟨e',st',m',L',F',rfl,hk,dN,tr,hs⟩|hp
  case inr=>
   have J7:=hp;obtain⟨v,pe,ph,ps,m',L',F',rfl,_⟩:=hp;exact .inr J7
  cases e' with
  | normal=>
   refine wpIn_mono (eD hT y hD.2 st' K hk cx hY r m' L' F' a' w' dN (by rw[hs];exact hc.2)) fun ex QI xP hq=>?_;rcases hq with⟨Zs,Qw,m'',Lx,Ij,rfl,nq,GZ,pN,Tk⟩|hp
   ·exact .inl ⟨Zs,Qw,m'',Lx,Ij,rfl,nq,GZ,Tr.trans tr pN,Tk.trans hs⟩
   ·exact .inr (hp.trans tr hs)
  | exit i=>exact .inl ⟨.exit i,st',m',L',F',rfl,hk,dN,tr,hs⟩
  | ret=>exact .inl ⟨.ret,st',m',L',F',rfl,hk,dN,tr,hs⟩
 | .cond c x y,hD,st,K,h=>fun cx hY r m L F a w hg hc=>by
  simp only[codeOk,Bool.and_eq_true]at hc;obtain⟨e,hp,s⟩:=st;have h:yH (aR e c) (Ct P T ft Y x ⟨e,hp,s⟩ K) (Ct P T ft Y y ⟨e,hp,s⟩ K):=h;unfold yH at h;split at h
  ·rename_i t ht
   have dV:a.eval c = .bool t:=hg.aR ht;rcases tU h with⟨rfl,h⟩|⟨rfl,h⟩
   ·exact wpIn_cond dV (eD hT x hD.1 _ K h cx hY r m L F a w hg hc.1)
   ·exact wpIn_cond dV (eD hT y hD.2 _ K h cx hY r m L F a w hg hc.2)
  ·exact h.elim
 | .block i c,hD,st,K,h=>fun cx hY r m L F a w hg hc=>by
  have:=eD hT c hD st (GI i K) h cx hY r m L F a w hg hc;refine wpIn_block (wpIn_mono this fun ex a' w' hq=>?_);rcases hq with⟨e',st',m',L',F',rfl,hk,dO⟩|hp
  case inr=>
   have J7:=hp;obtain⟨v,pe,ph,ps,m',L',F',rfl,_⟩:=hp;exact .inr J7
  cases e' with
  | normal=>exact .inl ⟨.normal,st',m',L',F',rfl,hk,dO⟩
  | ret=>exact .inl ⟨.ret,st',m',L',F',rfl,hk,dO⟩
  | exit j=>
   simp only[fu.Sc,Exit.inBlock];simp only[GI]at hk;split at hk
   ·rename_i qe
    rw[if_pos (Nat.eq_of_beq_eq_true qe)];exact .inl ⟨.normal,st',m',L',F',rfl,hk,dO⟩
   ·rename_i qe
    rw[if_neg (by rintro rfl;simp at qe)];exact .inl ⟨.exit j,st',m',L',F',rfl,hk,dO⟩
 | .region id ops draw,hD,st,K,h=>fun cx hY r m L F a w hg hc=>by
  obtain⟨e,hp,s⟩:=st;have fin:∀ {ex:Exit} {a':Act} {w':World} {e':Env} {h':Heap} {s':σ} {L':Loc} {F':Nat->Nat},ex = .normal->fw (bh ft.ks e') (fun e=>K .normal ⟨e,h',s'⟩)->Good cx r m L' F' ⟨e',h',s'⟩ a' w'->Tr F w F' w'->a'.tmps.size=a.tmps.size ->
    (∃ (e':fu) (st':St σ) (m':List Nat) (L':Loc) (F':Nat->Nat),ex=e'.Sc/\K e' st'/\Good cx r m' L' F' st' a' w'/\Tr F w F' w'/\a'.tmps.size=a.tmps.size)\/qj Y cx r F w a.tmps.size ex a' w':=by
   intro ex a' w' e' h' s' L' F' hex hk dN tr hs;rw[gI]at hk;exact .inl ⟨.normal,_,m,L',F',hex,hk,dN.sub (eC ft.ks e') (fun _ _ h=>h),tr,hs⟩
  cases draw with
  | false=>
   have h:wpOps P T Y ops.toList ops.toList e hp s (fun e h s=>fw (bh ft.ks e) fun e=>K .normal ⟨e,h,s⟩):=h;refine wpIn_mono (wpIn_region (id:=id) (Q:=mu Y cx r m F w a.tmps.size (fun e h s=>fw (bh ft.ks e) fun e=>K .normal ⟨e,h,s⟩)) ?_) fun ex a' w' hq=>?_
   ·have:=rH hT hY ops.toList 0 (fun j=>by simp) hg rfl (oH hc) (Tr.refl F w) h
    rwa [<- List.range_eq_range',Array.length_toList]at this
   ·rcases hq with⟨e',h',s',L',F',hex,hk,dN,tr,hs⟩|hp
    ·exact fin hex hk dN tr hs
    ·exact .inr hp
  | true=>
   have h:(match get ft.tb id with
    | some ⟨made,jV⟩=>wK made e hp fun e h=>Jr P T made ops.toList (ops.toList.zip jV) [] e h fun e h=>fw (bh ft.ks e) fun e=>K .normal ⟨e,h,s⟩
    | none=>tP P ft Y id ops ⟨e,hp,s⟩ K):=h
   split at h
   ·rename_i made jV Rk
    have Lf:=hD rfl ⟨made,jV⟩ Rk cx hY.laid r m L F e hp s a w _ hg (oH hc) h;refine wpIn_mono (Lf id) fun ex a' w' hq=>?_;obtain⟨e',h',s',L',F',hex,⟨hk,rfl⟩,dN,tr,hs⟩:=hq;exact fin hex hk dN tr hs
   ·obtain⟨h⟩:=h
    exact h cx hY r m L F a w hg hc
end
@[ext] structure Fs where
 env:Nat->Option V
 heap:Nat->Option Obj
def gU(f:Fs):Wr->Fs
 | .set s v=>⟨fun x=>if x=s then some v else f.env x,f.heap⟩
 | .obj i o=>⟨f.env,fun x=>if x=i then some o else f.heap x⟩
 | .new i o=>⟨f.env,fun x=>if x=i then some o else f.heap x⟩
 | .newq i o=>⟨f.env,fun x=>if x=i then some o else f.heap x⟩
 | .del i=>⟨f.env,fun x=>if x=i then none else f.heap x⟩
def cV(f:Fs):List Wr->Fs
 | []=>f
 | w::r=>cV (gU f w) r
def ef{σ:Type}(st:St σ):Fs:=⟨get st.env,get st.heap⟩
def oP:List Wr->List Nat
 | []=>[]
 | .set s _::r=>s::oP r
 | _::r=>oP r
theorem fX:∀ {l:List Nat} {n:Nat},D8 l n=true↔n∈l
 | [],n=>by simp[D8]
 | k::r,n=>by
  simp only[D8,List.mem_cons]
  cases h:Nat.beq k n with
  | true=>simp[Nat.eq_of_beq_eq_true h]
  | false=>
   have:n≠k:=by rintro rfl;simp at h
   simp[this,fX (l:=r)]
theorem iD:∀ {l m:List Nat},mB l m=true -> ∀ x∈l,x∉m
 | [],m,_,x,hx=>by cases hx
 | k::r,m,h,x,hx=>by
  simp only[mB]at h;split at h
  ·cases h
  rename_i hk;rcases List.mem_cons.1 hx with rfl|hx
  ·intro hm;rw[fX.2 hm]at hk;cases hk
  ·exact iD h x hx
theorem Ck:∀ {l m:List Nat},Qy l m=true -> ∀ x∈l,x∈m
 | [],m,_,x,hx=>by cases hx
 | k::r,m,h,x,hx=>by
  simp only[Qy]at h;split at h;case h_2=>cases h
  rename_i hk;rcases List.mem_cons.1 hx with rfl|hx
  ·exact fX.1 hk
  ·exact Ck h x hx
theorem jo:∀ {ws:List Wr} (f:Fs) {x:Nat},x∉oP ws->(cV f ws).env x=f.env x
 | [],_,_,_=>rfl
 | w::r,f,x,h=>by
  rw[cV]
  cases w with
  | set s v=>
   simp only[oP,List.mem_cons,not_or]at h;rw[jo _ h.2];simp[gU,h.1]
  | _=>rw[jo (ws:=r) _ h];rfl
theorem gY:∀ {ws:List Wr} (f:Fs) {x:Nat},x∉dy ws->(cV f ws).heap x=f.heap x
 | [],_,_,_=>rfl
 | w::r,f,x,h=>by
  rw[cV]
  cases w with
  | set s v=>rw[gY (ws:=r) _ h];rfl
  | _=>
   simp only[dy,List.mem_cons,not_or]at h;rw[gY _ h.2];simp[gU,h.1]
theorem lg:∀ {ws:List Wr} {f g:Fs} {x:Nat},f.env x=g.env x->(cV f ws).env x=(cV g ws).env x
 | [],_,_,_,h=>h
 | w::r,f,g,x,h=>by
  rw[cV,cV];apply lg;cases w<;>simp[gU,h]
theorem kh:∀ {ws:List Wr} {f g:Fs} {x:Nat},f.heap x=g.heap x->(cV f ws).heap x=(cV g ws).heap x
 | [],_,_,_,h=>h
 | w::r,f,g,x,h=>by
  rw[cV,cV];apply kh;cases w<;>simp[gU,h]
theorem GG{u v:List Wr}(f:Fs)(h1:∀ x∈oP u,x∉oP v)(h2:∀ x∈dy u,x∉dy v):cV (cV f u) v=cV (cV f v) u:=by
 ext1
 ·funext x
  by_cases hx:x∈oP u
  ·rw[jo _ (h1 x hx)]
   exact(lg (jo f (h1 x hx))).symm
  ·rw[jo (ws:=u) _ hx]
   exact lg (jo f hx)
 ·funext x
  by_cases hx:x∈dy u
  ·rw[gY _ (h2 x hx)]
   exact(kh (gY f (h2 x hx))).symm
  ·rw[gY (ws:=u) _ hx]
   exact kh (gY f hx)
theorem EJ{σ:Type}:∀ (ws:List Wr) (st:St σ),ef (aL st (tE ws))=cV (ef st) ws
 | [],st=>rfl
 | w::r,st=>by
  have key:∀ w':Wr,ef (bV st w')=gU (ef st) w->ef (aL st (w'::tE r))=cV (ef st) (w::r):=by
   intro w' h;rw[aL,EJ r,cV,h]
  cases w with
  | set s v=>exact key _ (by simp only[ef,bV,gU];congr 1;funext x;rw[e6])
  | obj i o=>exact key _ (by simp only[ef,bV,gU];congr 1;funext x;rw[e6])
  | new i o=>exact key (.newq i o) (by simp only[ef,bV,gU];congr 1;funext x;rw[fW])
  | newq i o=>exact key _ (by simp only[ef,bV,gU];congr 1;funext x;rw[fW])
  | del i=>exact key _ (by simp only[ef,bV,gU];congr 1;funext x;rw[e5])
structure tI(f:Fs)(id:Nat):Prop where
 none:f.heap id=none
 env:∀ s v,f.env s=some v->¬ iQ v id
 heap:∀ i o,f.heap i=some o->¬ mW o id
mutual
theorem xZ(id:Nat):∀ (v:V),¬ iQ v id->aJ (bp id) v=v
 | .d _,_=>rfl
 | .agg cs,h=>by simp only[aJ];rw[mR id cs h]
 | .tup cs,h=>by simp only[aJ];rw[mR id cs h]
 | .clo _ cs,h=>by simp only[aJ];rw[mR id cs h]
 | .ptr i off,h=>by
  have hi:Nat.beq i id=false:=by rw[Bool.eq_false_iff];intro e;exact h (Nat.eq_of_beq_eq_true e)
  simp only[aJ,bp,nZ,hi]
 | .ep i sz j off,h=>by
  have hi:Nat.beq i id=false:=by rw[Bool.eq_false_iff];intro e;exact h (Nat.eq_of_beq_eq_true e)
  simp only[aJ,bp,nZ,hi]
 | .sl i sz off len,h=>by
  have hi:Nat.beq i id=false:=by rw[Bool.eq_false_iff];intro e;exact h (Nat.eq_of_beq_eq_true e)
  simp only[aJ,bp,nZ,hi]
 | .mp i,h=>by
  have hi:Nat.beq i id=false:=by rw[Bool.eq_false_iff];intro e;exact h (Nat.eq_of_beq_eq_true e)
  simp only[aJ,bp,nZ,hi]
 | .it i,h=>by
  have hi:Nat.beq i id=false:=by rw[Bool.eq_false_iff];intro e;exact h (Nat.eq_of_beq_eq_true e)
  simp only[aJ,bp,nZ,hi]
 | .yld,_=>rfl
 | .unk,_=>rfl
theorem mR(id:Nat):∀ (vs:List V),¬ cm vs id->dz (bp id) vs=vs
 | [],_=>rfl
 | v::r,h=>by
  simp only[cm,not_or]at h;simp only[dz];rw[xZ id v h.1,mR id r h.2]
end
theorem BN(id:Nat):∀ (es:List (List V)),¬ cm es.flatten id->aX (bp id) es=es
 | [],_=>rfl
 | e::r,h=>by
  simp only[List.flatten_cons,re,not_or]at h;simp only[aX];rw[mR id e h.1,BN id r h.2]
theorem Fi(id:Nat)(o:Obj)(h:¬ mW o id):Obj.aJ (bp id) o=o:=by
 cases o with
 | box c=>cases c with
  | dd l=>rfl
  | vv l=>simp only[Obj.aJ];rw[mR id l h]
 | arr sz es=>cases es with
  | dd l=>rfl
  | vv l=>simp only[Obj.aJ];rw[BN id l h]
 | map cY=>rfl
 | iter s n=>rfl
 | buf t s=>rfl
 | tb t l=>simp only[Obj.aJ];rw[mR id l h]
 | mit v n l u=>simp only[Obj.aJ];rw[xZ id v h]
mutual
theorem jy(i:Nat):∀ (v:V),iQ v i->i∈cQ v
 | .d _,h=>h.elim
 | .agg cs,h=>by simpa[cQ]using e9 i cs h
 | .tup cs,h=>by simpa[cQ]using e9 i cs h
 | .clo _ cs,h=>by simpa[cQ]using e9 i cs h
 | .ptr j off,h=>by have:j=i:=h;simp[cQ,this]
 | .ep j sz k off,h=>by have:j=i:=h;simp[cQ,this]
 | .sl j sz off len,h=>by have:j=i:=h;simp[cQ,this]
 | .mp j,h=>by have:j=i:=h;simp[cQ,this]
 | .it j,h=>by have:j=i:=h;simp[cQ,this]
 | .yld,h=>h.elim
 | .unk,h=>h.elim
theorem e9(i:Nat):∀ (vs:List V),cm vs i->i∈ck vs
 | [],h=>h.elim
 | v::r,h=>by
  simp only[ck,List.mem_append];exact h.imp (jy i v) (e9 i r)
end
theorem eH(i:Nat)(o:Obj)(h:mW o i):i∈iq o:=by
 cases o with
 | box c=>cases c with
  | dd l=>exact(fL l i h).elim
  | vv l=>exact e9 i l h
 | arr sz es=>cases es with
  | dd l=>
   exfalso;have h:cm (bg l).flatten i:=h;rw[eG]at h;exact fL _ i h
  | vv l=>exact e9 i l.flatten h
 | map cY=>exact h.elim
 | iter s n=>exact h.elim
 | buf t s=>exact h.elim
 | tb t l=>exact e9 i l h
 | mit v n l u=>exact jy i v h
theorem tI.gU{f:Fs}{id:Nat}{w:Wr}(h:tI f id)(h1:id∉cT [w])(h2:id∉dy [w]):tI (gU f w) id:=by
 have put:∀ (i:Nat) (o:Obj),id∉iq o->id≠i->tI ⟨f.env,fun x=>if x=i then some o else f.heap x⟩ id:=by
  intro i o ho hi;refine⟨by simp[hi,h.none],h.env,fun j o' hj=>?_⟩;simp only at hj;split at hj
  ·cases hj;exact fun hn=>ho (eH id _ hn)
  ·exact h.heap j o' hj
 cases w with
 | set s v=>
  refine⟨h.none,fun t u hu=>?_,h.heap⟩;simp only[PX.gU]at hu;split at hu
  ·cases hu;exact fun hn=>h1 (by simp[cT,jy id _ hn])
  ·exact h.env t u hu
 | obj i o=>exact put i o (by simpa[cT]using h1) (by simpa[dy]using h2)
 | new i o=>exact put i o (by simpa[cT]using h1) (by simpa[dy]using h2)
 | newq i o=>exact put i o (by simpa[cT]using h1) (by simpa[dy]using h2)
 | del i=>
  refine⟨?_,h.env,fun j o' hj=>?_⟩
  ·simp only[PX.gU];split
   ·rfl
   ·exact h.none
  ·simp only[PX.gU]at hj
   split at hj
   ·cases hj
   ·exact h.heap j o' hj
theorem Gk(w:Wr)(r:List Wr)(x:Nat):x∈cT (w::r)↔x∈cT [w]\/x∈cT r:=by cases w<;>simp[cT]
theorem Ia(w:Wr)(r:List Wr)(x:Nat):x∈dy (w::r)↔x∈dy [w]\/x∈dy r:=by cases w<;>simp[dy]
theorem tI.cV{id:Nat}:∀ {ws:List Wr} {f:Fs},tI f id->id∉cT ws->id∉dy ws->tI (cV f ws) id
 | [],f,h,_,_=>h
 | w::r,f,h,h1,h2=>by
  rw[Gk,not_or]at h1;rw[Ia,not_or]at h2;exact tI.cV (ws:=r) (f:=PX.gU f w) (h.gU h1.1 h2.1) h1.2 h2.2
theorem xh{w:Wr}{r:List Wr}(h:gh (w::r)=true):gh r=true/\(∀ x∈ca r,x∉cT [w])/\(∀ x∈ca r,x∈dy [w] -> ∃ i,w = .del i)/\(∀ i o,w ≠ .newq i o):=by
 have key:∀ {l:List Nat},(match mB (ca r) l with
   | true=>gh r
   | false=>false)=true->gh r=true /\ ∀ x∈ca r,x∉l:=by
  intro l h;split at h
  ·rename_i hd;exact⟨h,iD hd⟩
  ·cases h
 cases w with
 | set s v=>
  obtain⟨h1,h2⟩:=key h;exact⟨h1,fun x hx=>by simpa[cT]using h2 x hx,fun x hx hm=>by simp[dy]at hm,fun i o e=>by cases e⟩
 | obj i o=>
  obtain⟨h1,h2⟩:=key h;exact⟨h1,fun x hx=>by have:=h2 x hx;simp at this;simpa[cT]using this.2,fun x hx hm=>by have:=h2 x hx;simp[dy]at hm;simp[hm]at this,fun i o e=>by cases e⟩
 | new i o=>
  obtain⟨h1,h2⟩:=key h;exact⟨h1,fun x hx=>by have:=h2 x hx;simp at this;simpa[cT]using this.2,fun x hx hm=>by have:=h2 x hx;simp[dy]at hm;simp[hm]at this,fun i o e=>by cases e⟩
 | newq i o=>cases h
 | del i=>exact⟨h,fun x hx=>by simp[cT],fun x hx hm=>⟨i,rfl⟩,fun i o e=>by cases e⟩
theorem IF{σ:Type}:∀ (ws:List Wr) (st:St σ),gh ws=true->(∀ id∈ca ws,tI (ef st) id)->ef (aL st ws)=cV (ef st) ws
 | [],st,_,_=>rfl
 | w::r,st,gL,hu=>by
  obtain⟨h1,h2,h3,h4⟩:=xh gL;have Ux:∀ id∈ca r,tI (ef st) id:=fun id hid=>hu id (by cases w<;>simp[ca,hid]);have key:ef (bV st w)=gU (ef st) w:=by
   cases w with
   | set s v=>simp only[ef,bV,gU];congr 1;funext x;rw[e6]
   | obj i o=>simp only[ef,bV,gU];congr 1;funext x;rw[e6]
   | new i o=>
    have hi:tI (ef st) i:=hu i (by simp[ca]);simp only[ef,bV,gU]
    congr 1
    ·funext x
     rw[bY]
     cases hx:get st.env x with
     | none=>rfl
     | some v=>simp only[Option.map_some];rw[xZ i v (hi.env x v hx)]
    ·funext x
     rw[fW,bY,e5];split
     ·rfl
     ·cases hx:get st.heap x with
      | none=>rfl
      | some o'=>simp only[Option.map_some];rw[Fi i o' (hi.heap x o' hx)]
   | newq i o=>exact absurd rfl (h4 i o)
   | del i=>simp only[ef,bV,gU];congr 1;funext x;rw[e5]
  rw[aL,cV,<- key];refine IF r _ h1 fun id hid=>?_;rw[key];by_cases hm:id∈dy [w]
  ·obtain⟨i,rfl⟩:=h3 id hid hm
   have hh:=Ux id hid;refine⟨?_,hh.env,fun j o' hj=>?_⟩
   ·simp only[PX.gU];split
    ·rfl
    ·exact hh.none
   ·simp only[PX.gU]at hj
    split at hj
    ·cases hj
    ·exact hh.heap j o' hj
  ·exact(Ux id hid).gU (h2 id hid) hm
structure Rec where
 idx:Nat
 e:Env
 h:Heap
 os:List Nat
 ws:List Wr
 mh:List Nat
def Rec.oo(r:Rec):OO:=⟨r.os,dy r.ws,ca r.ws,cT r.ws⟩
def RZ(r:Rec)(f:Fs):Prop:=(∀ s v,get r.e s=some v->f.env s=some v)/\(∀ s o,get r.h s=some o->f.heap s=some o)
def tQ:List Rec->Fs->Fs->Prop
 | [],f,f'=>f'=f
 | r::l,f,f'=>RZ r f/\tQ l (cV f r.ws) f'
structure Cv(a b:Rec):Prop where
 env:∀ x∈oP a.ws,get b.e x=none
 heap:∀ x∈dy a.ws,get b.h x=none
 ab1:∀ x∈oP a.ws,x∉oP b.ws
 P4:∀ x∈dy a.ws,x∉dy b.ws
 news:∀ x∈ca a.ws,x∉cT b.ws
structure OG(a b:Rec):Prop where
 l:Cv a b
 r:Cv b a
theorem Cv.sub{a b:Rec}(h:Cv a b)(f:Fs):RZ b (cV f a.ws)↔RZ b f:=by
 constructor
 ·rintro ⟨h1,h2⟩
  refine⟨fun s v hs=>?_,fun s o hs=>?_⟩
  ·rw[<- h1 s v hs];exact(jo f fun hm=>by rw[h.env s hm]at hs;cases hs).symm
  ·rw[<- h2 s o hs];exact(gY f fun hm=>by rw[h.heap s hm]at hs;cases hs).symm
 ·rintro ⟨h1,h2⟩
  refine⟨fun s v hs=>?_,fun s o hs=>?_⟩
  ·rw[jo f fun hm=>by rw[h.env s hm]at hs;cases hs];exact h1 s v hs
  ·rw[gY f fun hm=>by rw[h.heap s hm]at hs;cases hs];exact h2 s o hs
theorem tQ.swap{a b:Rec}{l:List Rec}{f f':Fs}(hf:OG a b)(h:tQ (a::b::l) f f'):tQ (b::a::l) f f':=by
 obtain⟨h1,h2,h3⟩:=h;refine⟨(hf.l.sub f).1 h2,(hf.r.sub f).2 h1,?_⟩;rw[GG f hf.r.ab1 hf.r.P4];exact h3
theorem tQ.front{b:Rec}{l2:List Rec}{f':Fs}:∀ {l1:List Rec} {f:Fs},(∀ a∈l1,OG a b)->tQ (l1++b::l2) f f'->tQ (b::(l1++l2)) f f'
 | [],_,_,h=>h
 | a::l1,f,hf,h=>by
  obtain⟨h1,h2⟩:=h;have:=tQ.front (l1:=l1) (fun i hi=>hf i (List.mem_cons_of_mem _ hi)) h2;exact tQ.swap (hf a (List.mem_cons_self ..)) ⟨h1,this⟩
def wG(P:Program)(ops:Array Oper)(q:Rec):Prop:=
 ∀ {σ:Type} (cx:Cx σ),oT P cx -> ∀ (r:Option Nat) (m:List Nat) (L:Loc) (F:Nat->Nat) (st:St σ) (a:Act) (w:World),dR q.e st.env->dR q.h st.heap->Good cx r m L F st a w ->
  (∀ o,ops[q.idx]?=some o -> ∀ k,o.dst=some k->k<a.tmps.size) -> ∀ (next:Act->World->Prop) (Q:Exit->Act->World->Prop),
  (∀ a' L' F' w',a'.tmps.size=a.tmps.size->Good cx r m L' F' (aL st q.ws) a' w'->Tr F w F' w'->next a' w')->wpOpIn (fr r) 0 P ops Q q.idx next a w
structure Pr(a b:Rec):Prop where
 lt:a.idx<b.idx
 free:a.idx∈b.mh->OG a b
 names:∀ x∈ca b.ws,x∉cT a.ws
 P4:∀ x∈ca b.ws,x∉dy a.ws
theorem kz:∀ {ws:List Wr} {x:Nat},x∈ca ws->x∈dy ws
 | [],_,h=>h
 | w::r,x,h=>by
  cases w<;>simp only[ca,dy,List.mem_cons]at h ⊢
  ·exact kz h
  ·exact .inr (kz h)
  ·exact h.imp id kz
  ·exact .inr (kz h)
  ·exact .inr (kz h)
def pE:Nat->List Oper->Bool
 | _,[]=>true
 | i,o::r=>o.after.toList.all (fun e=>!Region.binds .any e||Nat.blt e.on i)&&pE (i+1) r
def LD(jV:List OT)(o:Oper)(i:Nat):Bool:=
 o.after.toList.any fun e=>Region.binds .any e&&(Nat.beq e.on i||(Nat.blt i e.on&&(match jV[e.on]? with
  | some u=>!D8 u.mh i
  | none=>false)))
def uR(jV:List OT):Nat->List Oper->List OT->Bool
 | _,[],_=>true
 | j,o::r,t::tr=>(List.range j).all (fun i=>D8 t.mh i||LD jV o i)&&uR jV (j+1) r tr
 | _,_::_,[]=>false
def xS(d:Option Nat)(ts:List Nat):Bool:=
 match d with
 | none=>true
 | some d=>!D8 ts d
def QO(d d':Option Nat):Bool:=
 match d,d' with
 | some d,some d'=>!Nat.beq d d'
 | _,_=>true
def zT(ops:List Oper)(jV:List OT)(o:Oper)(t:OT):List Nat->Bool
 | []=>true
 | i::r=>(match ops[i]?,jV[i]? with
  | some p,some u=>xS p.dst t.ts&&xS o.dst u.ts&&QO p.dst o.dst
  | _,_=>false)&&zT ops jV o t r
def uT(ops:List Oper)(jV:List OT):List Oper->List OT->Bool
 | [],_=>true
 | o::r,t::tr=>zT ops jV o t t.mh&&uT ops jV r tr
 | _::_,[]=>false
def zS(ops:List Oper)(rt:RT):Bool:=
 Nat.beq ops.length rt.jV.length&&pE 0 ops&&uR rt.jV 0 ops rt.jV&&uT ops rt.jV ops rt.jV&&rt.made.all fun d=>Nat.blt d 500000
theorem kN:∀ {l:List Oper} {i:Nat},pE i l=true -> ∀ (j:Nat) (o:Oper),l[j]?=some o -> ∀ e∈o.after,Region.binds .any e=true->e.on<i+j
 | [],_,_,j,o,ho,_,_,_=>by simp at ho
 | x::l,i,h,j,o,ho,e,he,hb=>by
  simp only[pE,Bool.and_eq_true,List.all_eq_true]at h
  cases j with
  | zero=>
   simp only[List.getElem?_cons_zero,Option.some.injEq]at ho;subst ho;have:=h.1 e (by simpa using he);simp only[hb,Bool.not_true,Bool.false_or]at this;exact Nat.le_of_ble_eq_true this
  | succ j=>
   have:=kN h.2 j o (by simpa using ho) e he hb;omega
theorem uS{jV:List OT}:∀ {l:List Oper} {tr:List OT} {k:Nat},uR jV k l tr=true -> ∀ (j:Nat) (o:Oper) (t:OT),l[j]?=some o->tr[j]?=some t -> ∀ i,i<k+j->i∈t.mh \/
  ∃ e∈o.after,Region.binds .any e=true/\(e.on=i\/i<e.on /\ ∃ u,jV[e.on]?=some u/\i∉u.mh)
 | [],_,_,_,j,o,t,ho,_,_,_=>by simp at ho
 | _::_,[],_,h,j,o,t,_,ht,_,_=>by simp at ht
 | x::l,y::tr,k,h,j,o,t,ho,ht,i,hi=>by
  simp only[uR,Bool.and_eq_true,List.all_eq_true]at h
  cases j with
  | zero=>
   simp only[List.getElem?_cons_zero,Option.some.injEq]at ho ht;subst ho;subst ht;have:=h.1 i (by simpa using hi);rw[Bool.or_eq_true]at this;rcases this with h1|h1
   ·exact .inl (fX.1 h1)
   ·right
    simp only[LD,List.any_eq_true,Bool.and_eq_true,Bool.or_eq_true]at h1;obtain⟨e,he,hb,S8⟩:=h1;refine⟨e,by simpa using he,hb,?_⟩;rcases S8 with h2|⟨h2,h3⟩
    ·exact .inl (Nat.eq_of_beq_eq_true h2)
    ·right
     refine⟨Nat.le_of_ble_eq_true h2,?_⟩;split at h3
     ·rename_i u hu
      refine⟨u,hu,fun hm=>?_⟩;rw[fX.2 hm]at h3;cases h3
     ·cases h3
  | succ j=>exact uS h.2 j o t (by simpa using ho) (by simpa using ht) i (by omega)
theorem xj{ops:List Oper}{jV:List OT}{o:Oper}{t:OT}:∀ {l:List Nat},zT ops jV o t l=true -> ∀ i∈l,∃ p u,ops[i]?=some p/\jV[i]?=some u/\(∀ d,p.dst=some d->d∉t.ts)/\(∀ d,o.dst=some d->d∉u.ts)/\(∀ d,p.dst=some d->o.dst≠some d)
 | [],_,i,hi=>by cases hi
 | k::r,h,i,hi=>by
  simp only[zT,Bool.and_eq_true]at h;rcases List.mem_cons.1 hi with rfl|hi
  ·have h1:=h.1
   split at h1;case h_2=>cases h1
   rename_i p u hp hu;simp only[Bool.and_eq_true]at h1;obtain⟨⟨h2,h3⟩,h4⟩:=h1;refine⟨p,u,hp,hu,fun d hd hm=>?_,fun d hd hm=>?_,fun d hd he=>?_⟩
   ·rw[hd]at h2;simp[xS,fX.2 hm]at h2
   ·rw[hd]at h3;simp[xS,fX.2 hm]at h3
   ·rw[hd,he]at h4;simp[QO]at h4
  ·exact xj h.2 i hi
theorem uU{ops:List Oper}{jV:List OT}:∀ {l:List Oper} {tr:List OT},uT ops jV l tr=true -> ∀ (j:Nat) (o:Oper) (t:OT),l[j]?=some o->tr[j]?=some t->zT ops jV o t t.mh=true
 | [],_,_,j,o,t,ho,_=>by simp at ho
 | _::_,[],h,j,o,t,_,ht=>by simp at ht
 | x::l,y::tr,h,j,o,t,ho,ht=>by
  simp only[uT,Bool.and_eq_true]at h
  cases j with
  | zero=>
   simp only[List.getElem?_cons_zero,Option.some.injEq]at ho ht;subst ho;subst ht;exact h.1
  | succ j=>exact uU h.2 j o t (by simpa using ho) (by simpa using ht)
theorem AT{listed:Array Bool}{i:Nat}(hi:i<listed.size)(h:listed.getD i true≠false):listed.getD i false=true:=by
 simp only[Array.getD_eq_getD_getElem?]at h ⊢;rw[Array.getElem?_eq_getElem hi]at h ⊢;simpa using h
theorem CY{listed:Array Bool}{i:Nat}(h:listed.getD i false=true):listed.getD i true=true:=by
 simp only[Array.getD_eq_getD_getElem?]at h ⊢
 cases hi:listed[i]? with
 | none=>rw[hi]at h;cases h
 | some b=>rw[hi]at h;simpa using h
structure Lz(ops:Array Oper)(l:List Rec)(listed:Array Bool):Prop where
 mem:∀ i,(∃ q∈l,q.idx=i)↔listed.getD i true=false
 size:listed.size=ops.size
 closed:∀ (j:Nat) (o:Oper),listed.getD j false=true->ops[j]?=some o -> ∀ e∈o.after,Region.binds .any e=true->listed.getD e.on false=true
structure Rs(P:Program)(ops:Array Oper)(jV:List OT)(l:List Rec):Prop where
 pw:l.Pairwise Pr
 snd:∀ q∈l,wG P ops q
 news:∀ q∈l,gh q.ws=true
 mh:∀ q∈l,∃ t,jV[q.idx]?=some t/\q.mh=t.mh
theorem Lz.ahead{ops:Array Oper}{l:List Rec}{listed:Array Bool}(h:Lz ops l listed){jV:List OT}(hb:pE 0 ops.toList=true)(hA:uR jV 0 ops.toList jV=true)(hlen:ops.toList.length=jV.length) :
  ∀ (n j:Nat) (o:Oper) (t:OT),j<n->ops[j]?=some o->jV[j]?=some t->(∀ e∈o.after,Region.binds .any e=true->listed.getD e.on false=true) -> ∀ i,i<j->i∉t.mh->listed.getD i false=true
 | 0,_,_,_,hj,_,_,_,_,_,_=>by omega
 | n+1,j,o,t,hj,ho,ht,hl,i,hi,hn=>by
  rcases uS hA j o t (by simpa using ho) ht i (by omega) with h1|⟨e,he,SF,S8⟩
  ·exact absurd h1 hn
  have dh:=kN hb j o (by simpa using ho) e he SF;rcases S8 with rfl|⟨Pl,u,hu,YW⟩
  ·exact hl e he SF
  ·have hjs:j<ops.size:=(Array.getElem?_eq_some_iff.1 ho).1
   have fP:ops[e.on]?=some ops[e.on]:=Array.getElem?_eq_getElem (by omega);exact Lz.ahead h hb hA hlen n e.on _ u (by omega) fP hu (h.closed e.on _ (hl e he SF) fP) i Pl YW
section
variable {P : Program} {σ : Type} {cx : Cx σ} {r : Option Nat} {m : List Nat}
theorem Lc(E0:oT P cx){ops:Array Oper}{rt:RT}(ja:zS ops.toList rt=true){Q:Exit->Act->World->Prop}{f':Fs}{s:σ}{n0:Nat}{F0:Nat->Nat}{w0:World}
  (hd:∀ o∈ops.toList,∀ d,o.dst=some d->d<n0)
  (hQ:∀ a w L F (st:St σ),ef st=f'->st.s=s->Good cx r m L F st a w->Tr F0 w0 F w->a.tmps.size=n0->Q .normal a w) :
  ∀ (fuel:Nat) {l:List Rec} {listed:Array Bool} {st:St σ} {a:Act} {w:World} {L:Loc} {F:Nat->Nat},
  Rs P ops rt.jV l->Good cx r m L F st a w->st.s=s->Tr F0 w0 F w->a.tmps.size=n0->(∀ q∈l,∀ id∈ca q.ws,tI (ef st) id)->tQ l (ef st) f'->l.length<=fuel->Lz ops l listed ->
  wpAnyIn (fr r) 0 P .any ops Q fuel listed a w:=by
 simp only[zS,Bool.and_eq_true]at ja;obtain⟨⟨⟨⟨hlen,ur⟩,MB⟩,zg⟩,IX⟩:=ja;have hlen:=Nat.eq_of_beq_eq_true hlen;have Tg:∀ {l:List Rec} {listed:Array Bool},l.Pairwise Pr->Lz ops l listed->Region.ready .any ops listed = []->l = []:=by
  intro l listed hp ht hr
  cases l with
  | nil=>rfl
  | cons q l=>
   exfalso;have hi:=(ht.mem q.idx).1 ⟨q,List.mem_cons_self ..,rfl⟩;have S0:q.idx<ops.size:=by
    rcases Nat.lt_or_ge q.idx listed.size with h|h
    ·rw[<- ht.size];exact h
    ·simp[Array.getD_eq_getD_getElem?,Array.getElem?_eq_none h]at hi
   have qb:q.idx∈Region.ready .any ops listed:=by
    rw[mem_ready];refine⟨hi,ops[q.idx],Array.getElem?_eq_getElem S0,fun e he hb=>?_⟩;have dh:=kN ur q.idx ops[q.idx] (by simp) e he hb;refine AT (by rw[ht.size];omega) fun hf=>?_;obtain⟨q',Uv,Rb⟩:=(ht.mem e.on).2 hf;rcases List.mem_cons.1 Uv with h|h
    ·subst h;omega
    ·have:=((List.pairwise_cons.1 hp).1 _ h).lt
     omega
   rw[hr]at qb;cases qb
 intro fuel
 induction fuel with
 | zero=>
  intro l listed st a w L F Pq hg hs tr hn hu bZ hle ht;have hl:l = []:=List.length_eq_zero_iff.1 (by omega);subst hl;have bZ:f'=ef st:=bZ;refine⟨?_,hQ a w L F st bZ.symm hs hg tr hn⟩
  cases hr:Region.ready .any ops listed with
  | nil=>rfl
  | cons i _=>
   have:i∈Region.ready .any ops listed:=by rw[hr];exact List.mem_cons_self ..
   obtain⟨q,hq,_⟩:=(ht.mem i).2 (mem_ready.1 this).1;cases hq
 | succ fuel ih=>
  intro l listed st a w L F Pq hg hs tr hn hu bZ hle ht;refine⟨fun hr=>?_,fun j hj=>?_⟩
  ·have hl:=Tg Pq.pw ht hr
   subst hl;have bZ:f'=ef st:=bZ;exact hQ a w L F st bZ.symm hs hg tr hn
  ·obtain⟨C5,oj,J6,vE⟩:=mem_ready.1 hj
   obtain⟨q,hq,rfl⟩:=(ht.mem j).2 C5;obtain⟨l1,l2,rfl⟩:=List.append_of_mem hq;have Lk:=List.pairwise_append.1 Pq.pw;obtain⟨t,hqt,hqp⟩:=Pq.mh q hq;have jv:∀ p∈l1,OG p q:=by
    intro p hp;have Te:=Lk.2.2 p hp q (List.mem_cons_self ..);refine Te.free (Classical.byContradiction fun J3=>?_);rw[hqp]at J3;have:=ht.ahead ur MB hlen (q.idx+1) q.idx oj t (by omega) J6 hqt vE p.idx Te.lt J3;have h3:=CY this;rw[(ht.mem p.idx).1 ⟨p,List.mem_append_left _ hp,rfl⟩]at h3;cases h3
   obtain⟨mN,dO⟩:=tQ.front jv bZ;have hns:=Pq.news q hq;have Rj:ef (aL st q.ws)=cV (ef st) q.ws:=IF q.ws st hns (hu q hq);refine Pq.snd q hq cx E0 r m L F st a w mN.1 mN.2 hg (fun o ho k hk=>?_) _ _ fun a' L' F' w' dD dN pN=>?_
   ·rw[hn]
    exact hd o (by simpa using Array.mem_of_getElem? ho) k hk
   ·have qb:∀ p,p∈l1++l2->p∈l1++q::l2:=fun p hp=>by
     rcases List.mem_append.1 hp with h|h
     ·exact List.mem_append_left _ h
     ·exact List.mem_append_right _ (List.mem_cons_of_mem _ h)
    have er:∀ p∈l1++l2,p.idx≠q.idx:=by
     intro p hp;rcases List.mem_append.1 hp with h|h
     ·have:=(Lk.2.2 p h q (List.mem_cons_self ..)).lt;omega
     ·have:=((List.pairwise_cons.1 Lk.2.1).1 p h).lt;omega
    refine ih (l:=l1++l2) ⟨?_,fun p hp=>Pq.snd p (qb p hp),fun p hp=>Pq.news p (qb p hp),fun p hp=>Pq.mh p (qb p hp)⟩ dN ((dG _ _).trans hs) (Tr.trans tr pN) (dD.trans hn) ?_ (by rw[Rj];exact dO) (by simp at hle ⊢;omega) ⟨fun i=>?_,?_,?_⟩
    ·exact List.pairwise_append.2 ⟨Lk.1,(List.pairwise_cons.1 Lk.2.1).2,fun x hx y hy=>Lk.2.2 x hx y (List.mem_cons_of_mem _ hy)⟩
    ·intro p hp id hid
     rw[Rj];refine(hu p (qb p hp) id hid).cV ?_ ?_
     ·rcases List.mem_append.1 hp with h|h
      ·exact(jv p h).l.news id hid
      ·exact((List.pairwise_cons.1 Lk.2.1).1 p h).names id hid
     ·rcases List.mem_append.1 hp with h|h
      ·exact(jv p h).l.P4 id (kz hid)
      ·exact((List.pairwise_cons.1 Lk.2.1).1 p h).P4 id hid
    ·by_cases qe:q.idx=i
     ·subst qe
      have dh:q.idx<listed.size:=by rw[ht.size];exact(Array.getElem?_eq_some_iff.1 J6).1
      constructor
      ·rintro ⟨p,hp,he⟩;exact absurd he (er p hp)
      ·intro h;simp[dh]at h
     ·rw[getD_set_ne true qe,<- ht.mem i]
      constructor
      ·rintro ⟨p,hp,he⟩;exact⟨p,qb p hp,he⟩
      ·rintro ⟨p,hp,he⟩
       refine⟨p,?_,he⟩;rcases List.mem_append.1 hp with h|h
       ·exact List.mem_append_left _ h
       ·rcases List.mem_cons.1 h with rfl|h
        ·exact absurd he qe
        ·exact List.mem_append_right _ h
    ·rw[Array.size_setIfInBounds];exact ht.size
    ·intro k o' hk J5 e he hb
     by_cases WI:q.idx=k
     ·subst WI
      rw[J6]at J5;cases J5;exact getD_set_true (vE e he hb)
     ·rw[getD_set_ne false WI]at hk
      exact getD_set_true (ht.closed k o' hk J5 e he hb)
end
end Go.PX
