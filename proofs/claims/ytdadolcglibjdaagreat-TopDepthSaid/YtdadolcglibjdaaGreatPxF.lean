import Derived.Test.YtdadolcglibjdaaGreatPxE
import Derived.OrdersIn
import Derived.Scope
set_option linter.all false
namespace Go.PX
open Go.RowKit
theorem xA(v:V)(K:V->Prop):y4 v K=K v:=by cases v<;>rfl
theorem ED(v:Obj)(K:Obj->Prop):Cf v K=K v:=by
 match v with
 | .box (.dd l)=>exact uW l _
 | .box (.vv l)=>exact mB l _
 | .arr _ (.dd _)=>rfl
 | .arr _ (.vv _)=>rfl
 | .map _=>rfl
 | .iter _ _=>rfl
 | .buf _ _=>rfl
 | .tb _ l=>exact mB l _
 | .fz l=>exact mB l _
 | .mit v n l u=>exact xA v fun v=>K (.mit v n l u)
theorem gO:∀ (l:Env) (K:Env->Prop),eB l K=K l
 | [],K=>rfl
 | (k,v)::r,K=>by
  show y4 v (fun v=>eB r fun r=>K ((k,v)::r))=_;rw[xA,gO r]
theorem gP:∀ (l:aq) (K:aq->Prop),gj l K=K l
 | [],K=>rfl
 | (k,v)::r,K=>by
  show Cf v (fun v=>gj r fun r=>K ((k,v)::r))=_;rw[ED,gP r]
theorem lS:∀ (l:List Nat) (K:List Nat->Prop),cP l K=K l
 | [],K=>rfl
 | n::r,K=>by
  show cP r (fun r=>K (n::r))=_;rw[lS r]
theorem cV{σ:Type}:∀ (ws:List Wr) (st:St σ),(aF st ws).s=st.s
 | [],_=>rfl
 | w::r,st=>by
  rw[aF,cV r];cases w<;>rfl
theorem cu{σ:Type}(s:σ):∀ (ws:List Wr) (e:Env) (h:aq) (K:Env->aq->Prop),bg ws e h K=K (aF (⟨e,h,s⟩:St σ) ws).env (aF (⟨e,h,s⟩:St σ) ws).heap
 | [],e,h,K=>rfl
 | w::r,e,h,K=>by
  cases w with
  | set t v=>show eB (put e t v) (fun e'=>bg r e' h K)=_;rw[gO,cu s r];rfl
  | obj id o=>show gj (put h id o) (fun h'=>bg r e h' K)=_;rw[gP,cu s r];rfl
  | new id o=>
   show eB (ct (aE (aZ id)) e) (fun e'=>gj ((id,o)::ct (Obj.aE (aZ id)) (cut h id)) fun h'=>bg r e' h' K)=_;rw[gO,gP,cu s r];rfl
  | newq id o=>show gj ((id,o)::h) (fun h'=>bg r e h' K)=_;rw[gP,cu s r];rfl
  | del id=>show gj (cut h id) (fun h'=>bg r e h' K)=_;rw[gP,cu s r];rfl
section
variable {P : Program} {T : dV} {e : Env} {h : aq} {dst : Option Nat} {K : List Wr -> Prop} {ty : TypeId} {pos : String} {after : Array Edge} {guard : Option (Nat × Bool)}
theorem zz(hT:bl P T){op:Op}(hk:fK T e h dst op K):∃ ws,K ws/\Out P e h ⟨dst,op,ty,pos,after,guard⟩ ws:=by
 cases op;case move=>exact HP hk
 case assign=>exact CQ hk
 case pick=>exact HR hk
 case alloc=>exact Fg hT hk
 case box=>exact JN hk
 case build=>exact Fi hT hk
 case buildSlice=>exact vM hT hk
 case load=>exact HO hT hk
 case store=>exact Fp hT hk
 case nilCheck=>exact zC hk
 case binOp=>exact Fh hT hk
 case unOp=>exact HS hk
 case convert=>exact Bn hT hk
 case makeFunc=>exact zA hk
 case fieldAddr=>exact wU hT hk
 case field=>exact Fk hT hk
 case indexAddr=>exact wV hT hk
 case index=>exact Fl hT hk
 case slice=>exact Fo hT hk
 case extract=>exact Bo hk
 case range=>exact Fm hT hk
 case makeInterface=>exact rE hT hk
 case entry=>exact Fj hk
 case typeAssert=>exact vP hT hk
 case next=>exact HQ hk
 case makeMap=>exact Bp hk
 case makeSlice=>exact wW hT hk
 case lookup=>exact CS hT hk
 case mapUpdate=>exact wX hT hk
 case insert=>exact CR hT hk
 case mapEntry=>exact zB hT hk
 case entryStore=>exact vN hT hk
 all_goals exact(show False from hk).elim
theorem qQ(hT:bl P T){b:Builtin}{args:Array Operand}{tys:Array TypeId}(hk:dZ T e h dst b args tys K):∃ ws,K ws/\Out P e h ⟨dst,.call ⟨.builtin b,args,tys⟩,ty,pos,after,guard⟩ ws:=by
 cases b;case len=>exact JP hT hk
 case min=>exact JR hk
 case max=>exact JQ hk
 case append=>exact CP hT hk
 case copy=>exact HN hT hk
 all_goals exact(show False from hk).elim
end
section
variable {P : Program} {T : dV} {σ : Type} {Y : Hd σ} {cx : Cx σ} {r : Option Nat} {m : List Nat} {L : Loc} {F : Nat -> Nat} {a : Act} {w : World}
theorem GP{ops:Array Oper}{e:Env}{h:aq}{s:σ}{guard:Option (Nat×Bool)}{X Z:List Wr->Prop}(hk:mC ops.toList e guard X Z){dst:Option Nat}{op:Op}{ty:TypeId}{pos:String}{after:Array Edge}
  {st:St σ} (he:cN e st.env) (hg:Good cx r m L F st a w) :
  ∃ ws,((Region.wanted ⟨dst,op,ty,pos,after,guard⟩ (yielded ops a.tmps)=true/\X ws)\/(Region.wanted ⟨dst,op,ty,pos,after,guard⟩ (yielded ops a.tmps)=false/\Z ws)) /\
   (ws = [] \/ ∃ d v,ws = [.set d v]/\get e d=some v):=by
 unfold mC at hk;unfold Region.wanted;split at hk
 ·exact⟨[],.inl ⟨rfl,hk⟩,.inl rfl⟩
 ·rename_i j Nu
  split at hk;case h_2=>exact hk.elim
  rename_i d _ _ _ _ _ hj;have AN:(ops[j]?).bind (·.dst)=some d:=by
   rw[Array.getElem?_toList]at hj;rw[hj];rfl
  split at hk
  ·rename_i b hb
   obtain⟨x,hx,hr⟩:=hg.env d _ (he _ _ hb);have hr:x = .bool b:=hr;subst hr;have hy:yielded ops a.tmps j=some b:=by
    unfold yielded;rw[AN];simp[hx]
   split at hk
   ·rcases uM hk with⟨rfl,hk⟩|⟨rfl,hk⟩
    ·exact⟨_,.inl ⟨by simp[hy],hk⟩,.inr ⟨d,_,rfl,hb⟩⟩
    ·exact⟨_,.inr ⟨by simp[hy],hk⟩,.inr ⟨d,_,rfl,hb⟩⟩
   ·rcases uM hk with⟨rfl,hk⟩|⟨rfl,hk⟩
    ·exact⟨_,.inr ⟨by simp[hy],hk⟩,.inr ⟨d,_,rfl,hb⟩⟩
    ·exact⟨_,.inl ⟨by simp[hy],hk⟩,.inr ⟨d,_,rfl,hb⟩⟩
  ·rename_i hb
   obtain⟨x,hx,l,rfl,hl⟩:=hg.env d _ (he _ _ hb);have hy:yielded ops a.tmps j=none:=by
    unfold yielded;rw[AN];simp[hx]
   exact⟨[],.inr ⟨by simp[hy],hk⟩,.inl rfl⟩
  ·exact hk.elim
theorem Good.RV{e:Env}{h:aq}{s:σ}(hg:Good cx r m L F ⟨e,h,s⟩ a w){ws:List Wr}(hw:ws = [] \/ ∃ d v,ws = [.set d v]/\get e d=some v) :
  Good cx r m L F (aF (⟨e,h,s⟩:St σ) ws) a w/\(aF (⟨e,h,s⟩:St σ) ws).heap=h:=by
 rcases hw with rfl|⟨d,v,rfl,hv⟩
 ·exact⟨hg,rfl⟩
 ·refine⟨hg.sub (e:=put e d v) (h:=h) (fun t u hu=>?_) (fun _ _ h=>h),rfl⟩
  rw[db]at hu;split at hu
  ·rename_i e1;subst e1;cases hu;exact hv
  ·exact hu
theorem dz{d:Option Nat}(x:Value):(a.put d x).tmps.size=a.tmps.size:=by
 cases d<;>simp[Act.put]
theorem fN{n:Nat}{f:FuncId}{vs:Array Value}{R:Ending->World->Prop}(h:CallsIn Fence.wide n P f vs w R):CallsIn (fr r) n P f vs w R:=h
theorem CZ{n:Nat}{l:Nat}{f:FuncId}{tmps:Array Value}{zU body:Code}{R:Ending->World->Prop}(h:RoundIn Fence.wide n P l f tmps zU body w R):RoundIn (fr r) n P l f tmps zU body w R:=h
def Dr(cx:Cx σ)(r:Option Nat)(m:List Nat)(F:Nat->Nat)(w:World)(n:Nat)(K:Env->aq->σ->Prop):Exit->Act->World->Prop:=fun ex a' w'=>
 ∃ e' h' s' L' F',ex = .normal/\K e' h' s'/\Good cx r m L' F' ⟨e',h',s'⟩ a' w'/\Tr F w F' w'/\a'.tmps.size=n
def uA(Y:Hd σ)(cx:Cx σ)(r:Option Nat)(m:List Nat)(F:Nat->Nat)(w:World)(n:Nat)(K:Env->aq->σ->Prop):Exit->Act->World->Prop:=fun ex a' w'=>
 Dr cx r m F w n K ex a' w'\/pZ Y cx r F w n ex a' w'
theorem Br{e:Env}{h:aq}{o:Oper}{ws:List Wr}(ho:Out P e h o ws){st:St σ}(he:cN e st.env)(hh:cN h st.heap)(hg:Good cx r m L F st a w)(hd:∀ k,o.dst=some k->k<a.tmps.size)
  (wD:∀ c,o.op ≠ .defer c) {next:Act->World->Prop} {Q:Exit->Act->World->Prop} (hn:∀ x L' F' w',Good cx r m L' F' (aF st ws) (a.put o.dst x) w'->Tr F w F' w'->next (a.put o.dst x) w') :
  o.wpIn (fr r) 0 P a w next Q:=by
 obtain⟨x,w',nx,bt,hx,L',F',eL,tr⟩:=ho cx r m L F st a w he hh hg hd;refine⟨fun _ _=>trivial,?_⟩;rw[Oper.semAt_eq _ _ _ wD,bt];rcases hx with rfl|⟨rfl,rfl⟩
 ·exact hn x L' F' w' eL tr
 ·exact hn undef L' F' w' eL tr
theorem Ii{dst:Option Nat}{op:Op}{e:Env}{h:aq}{s:σ}{go:Env->aq->σ->Prop}(hc:∀ c,op ≠ .call c)(hb:∀ b t x y ty,op ≠ .binOp b t x y ty)(hn:∀ x,op ≠ .next x false)(hp:∀ x,op ≠ .panic x) :
  Eh P T Y dst op e h s go=fK T e h dst op (fun ws=>bg ws e h fun e h=>go e h s):=by
 cases op;case next x b=>
  cases b
  ·exact absurd rfl (hn _)
  ·rfl
 all_goals first|rfl|exact absurd rfl (hc _)|exact absurd rfl (hb _ _ _ _ _)|exact absurd rfl (hp _)
theorem HB(hT:bl P T){e:Env}{op:BinOp}{t:TypeId}{x y:Operand}{neg:Bool}{ne:Prop}(hk:zx T e op t x y=some (neg,ne)){st:St σ}(he:cN e st.env)(hg:Good cx r m L F st a w){dst:Option Nat}{ty ty':TypeId}{pos:String}{after:Array Edge}{guard:Option (Nat×Bool)} :
  ∃ b:Bool,(ne->b=false)/\(execOp a.eval ⟨dst,.binOp op t x y ty',ty,pos,after,guard⟩).run P w = .ok (.value (.bool (yr neg b))) w:=by
 have MX:∀ {x:Value},isSlice T t=true -> ∃ el,P.underlying t=some (.slice el):=by
  intro _ h;unfold isSlice at h;split at h
  ·rename_i ti ht
   split at h
   ·rename_i el dw
    obtain⟨de,fB,dC⟩:=dy hT ht;rw[dw]at dC;exact⟨el,by rw[fB,eo dC.symm]⟩
   ·cases h
  ·cases h
 have bt:∀ (u:Option Addr) (l c:Nat) (el:TypeId),P.underlying t=some (.slice el)->a.eval x = .slice u l c->y = .const (.slice none 0 0) ->
   ((op = .eql->(execOp a.eval ⟨dst,.binOp op t x y ty',ty,pos,after,guard⟩).run P w = .ok (.value (.bool u.isNone)) w)/\(op = .neq->(execOp a.eval ⟨dst,.binOp op t x y ty',ty,pos,after,guard⟩).run P w = .ok (.value (.bool (!u.isNone))) w)):=by
  intro u l c el hu hx hy;subst hy;have Y0:a.eval (.const (.slice none 0 0)) = .slice none 0 0:=rfl;have hq:(Op.equal t (.slice u l c) (.slice none 0 0)).run P w = .ok u.isNone w:=by
   rw[Op.equal,show Op.maxDepth=9999+1 from rfl,Op.equalIn];cases u<;>simp[run_underlying hu]
  refine⟨fun ho=>?_,fun ho=>?_⟩<;>subst ho<;>simp[execOp,hx,Y0,eqGuard,binOp,hq]
 have NN:∀ {es:List (List D)},aH e x=some (.d (.vs es)) -> ∃ u l c,a.eval x = .slice u l c/\(es ≠ []->u.isNone=false):=by
  intro es hx;obtain⟨u,l,c,h1,h2,h3,h4⟩:=hg.aH (ax he hx);refine⟨u,l,c,h1,fun ef=>?_⟩;obtain⟨b,off,sz,h5,_⟩:=h4 ef;rw[h5];rfl
 have RD:∀ {id sz off n:Nat},aH e x=some (.sl id sz off n) -> ∃ u l c,a.eval x = .slice u l c/\(0<n->u.isNone=false):=by
  intro id sz off n hx;obtain⟨u,c,h1,h2,h3,h4⟩:=hg.aH (ax he hx);refine⟨u,n,c,h1,fun hn=>?_⟩;rcases h4 with⟨h4,_⟩|⟨h4,_⟩
  ·omega
  ·rw[h4];rfl
 unfold zx at hk;split at hk
 ·rename_i hs hx
  cases hk;obtain⟨el,hu⟩:=MX (x:=undef) hs;obtain⟨u,l,c,h1,h2⟩:=NN hx;exact⟨u.isNone,h2,(bt u l c el hu h1 rfl).1 rfl⟩
 ·rename_i hs hx
  cases hk;obtain⟨el,hu⟩:=MX (x:=undef) hs;obtain⟨u,l,c,h1,h2⟩:=NN hx;exact⟨u.isNone,h2,(bt u l c el hu h1 rfl).2 rfl⟩
 ·rename_i hs hx
  cases hk;obtain⟨el,hu⟩:=MX (x:=undef) hs;obtain⟨u,l,c,h1,h2⟩:=RD hx;exact⟨u.isNone,h2,(bt u l c el hu h1 rfl).1 rfl⟩
 ·rename_i hs hx
  cases hk;obtain⟨el,hu⟩:=MX (x:=undef) hs;obtain⟨u,l,c,h1,h2⟩:=RD hx;exact⟨u.isNone,h2,(bt u l c el hu h1 rfl).2 rfl⟩
 ·rename_i hs hx
  cases hk;obtain⟨el,hu⟩:=MX (x:=undef) hs;have h1:a.eval x = .slice none 0 0:=hg.aH (ax he hx);exact⟨false,fun _=>rfl,(bt none 0 0 el hu h1 rfl).1 rfl⟩
 ·rename_i hs hx
  cases hk;obtain⟨el,hu⟩:=MX (x:=undef) hs;have h1:a.eval x = .slice none 0 0:=hg.aH (ax he hx);exact⟨false,fun _=>rfl,(bt none 0 0 el hu h1 rfl).2 rfl⟩
 ·cases hk
theorem ur{t:TypeId}{n:String}{g:FuncId}(hm:∀ v w,(method (P.types.size+Made.depth) t v n).run P w = .ok (g,v) w)(lV:∀ (vs:Array Value) (w:World),(callFunc g vs).run P w = .ok (.enter g vs) w){a:Act}{f:Operand}{y:Value}(cF:a.eval f = .iface t y){w:World}
  {dst:Option Nat} {args:Array Operand} {tys:Array TypeId} {ty:TypeId} {pos:String} {after:Array Edge} {guard:Option (Nat×Bool)} :
  (execOp a.eval ⟨dst,.call ⟨.invoke f n,args,tys⟩,ty,pos,after,guard⟩).run P w = .ok (.enter g (#[y]++args.map a.eval)) w:=by
 have hx:(#[a.eval f]++args.map a.eval).extract 1 (#[a.eval f]++args.map a.eval).size=args.map a.eval:=by
  apply Array.ext';simp only[Array.toList_extract,Array.toList_append,Array.toList_map,Array.size_append,Array.size_map];simp[List.extract];rw[List.take_of_length_le (by simp)]
 have h0:(#[a.eval f]++args.map a.eval)[0]?=some (.iface t y):=by
  rw[<- cF,Array.getElem?_append_left (by simp)];rfl
 simp only[execOp,resolve,Sem.run_bind,Sem.run_pure,Result.andThen_ok,invoke,h0,hx,callMethod];simp[program,Sem.run,Sem.run_bind,hm,lV]
theorem AZ{e:Env}{h:aq}{s:σ}{cx:Cx σ}{r:Option Nat}{m:List Nat}{L:Loc}{F:Nat->Nat}{a:Act}{w:World}(hg:Good cx r m L F ⟨e,h,s⟩ a w){args:Array Operand}{l':List V}(hl:cE e args.toList=some l'){v:D}{y:Value}(hv:bD F w v y) :
  aj cx.yv L F w (.d v::l') (#[y]++args.map a.eval).toList:=by
 refine⟨y,args.toList.map a.eval,by simp,hv,hg.cE hl⟩
theorem xK{e:Env}{h:aq}{s:σ}{cx:Cx σ}{r:Option Nat}{m:List Nat}{L:Loc}{F:Nat->Nat}{a:Act}{w:World}(hg:Good cx r m L F ⟨e,h,s⟩ a w){args:Array Operand}{l':List V}(hl:cE e args.toList=some l'){v:V}{y:Value}(hv:aT cx.yv L F w v y) :
  aj cx.yv L F w (v::l') (#[y]++args.map a.eval).toList:=by
 refine⟨y,args.toList.map a.eval,by simp,hv,hg.cE hl⟩
theorem Bz{w:World}{rv:Nat}{m:Nat}{n:Nat}{seen:Array Nat}{en:Array MapEntry}{c:Nat}{ty:TypeId}(hr:w.heap[rv]?=some (.mapIter (some m) n seen n))(hm:w.heap[m]?=some (.map en c))(hb:qF en c)(hn:en.size=n) :
  ((∀ i,i<n->seen.contains i=true)/\(∃ d,(Instr.next (.pointer (some ⟨rv,0,none⟩)) false ty).run P w = .ok (.tuple #[.bool false]) { w with drawn:=d })) \/
  (∃ (i:Nat) (e:MapEntry) (d:Nat),i<n/\seen.contains i=false/\en[i]?=some e/\(Instr.next (.pointer (some ⟨rv,0,none⟩)) false ty).run P w = .ok (.tuple #[.bool true,e.key,e.val]) { w with drawn:=d,heap:=w.heap.setIfInBounds rv (.mapIter (some m) n (seen.push i) n) }):=by
 have NC:c=n:=by rw[hb.1,hn]
 subst NC;have AK:∀ (i:Nat) (e:MapEntry),en[i]?=some e->e.born=i:=hb.2;have ri:(!seen.isEmpty && !en.isEmpty&&en.all (·.born≥c))=false:=by
  by_cases he:en.size=0
  ·have:en = #[]:=Array.eq_empty_of_size_eq_zero he
   subst this;simp
  ·have h0:en[0]?=some en[0]:=Array.getElem?_eq_getElem (by omega)
   have qk:=AK 0 _ h0;have:en.all (·.born≥c)=false:=by
    rw[Array.all_eq_false];exact⟨0,by omega,by rw[qk];simp;omega⟩
   simp[this]
 have rk:((en.filter fun e=>!seen.contains e.born).filter (·.born≥c)) = #[]:=by
  rw[Array.filter_eq_empty_iff];intro e he;obtain⟨he,_⟩:=Array.mem_filter.1 he;obtain⟨i,hi,rfl⟩:=Array.mem_iff_getElem.1 he;have:=AK i _ (Array.getElem?_eq_getElem hi);simp[this];omega
 have hold:((en.filter fun e=>!seen.contains e.born).filter (·.born<c))=en.filter fun e=>!seen.contains e.born:=by
  rw[Array.filter_eq_self];intro e he;obtain⟨he,_⟩:=Array.mem_filter.1 he;obtain⟨i,hi,rfl⟩:=Array.mem_iff_getElem.1 he;have:=AK i _ (Array.getElem?_eq_getElem hi);simp[this];omega
 generalize kZ:(en.filter fun e=>!seen.contains e.born)=left at rk hold;by_cases hz:left = #[]
 ·left
  refine⟨fun i hi=>?_,w.drawn,?_⟩
  ·have he:en[i]?=some en[i]:=Array.getElem?_eq_getElem (by omega)
   have md:=AK i _ he
   cases hs:seen.contains i with
   | true=>rfl
   | false=>
    exfalso;have:en[i]∈en.filter fun e=>!seen.contains e.born:=Array.mem_filter.2 ⟨Array.getElem_mem _,by rw[md,hs];rfl⟩;rw[kZ,hz]at this;simp at this
  ·simp only[Instr.next,getObj,Sem.run_bind,Sem.run,hr,Result.andThen,hm]
   simp only[ri,kZ,hold,rk];subst hz;simp[choose,Sem.run,Sem.run_bind,Question.forced]
 ·right
  have AT:0<left.size:=Nat.pos_of_ne_zero fun h=>hz (Array.eq_empty_of_size_eq_zero h);have EI:left.isEmpty=false:=by
   rw[Array.isEmpty_eq_false_iff];exact hz
  have pick:∀ (j d:Nat),j<left.size -> ∃ (i:Nat) (e:MapEntry),i<c/\seen.contains i=false/\en[i]?=some e/\left[j]?=some e/\e.born=i:=by
   intro j d hj;have gF:left[j]∈(en.filter fun e=>!seen.contains e.born):=by rw[kZ];exact Array.getElem_mem _
   obtain⟨gF,hs⟩:=Array.mem_filter.1 gF;obtain⟨i,hi,he⟩:=Array.mem_iff_getElem.1 gF;have md:=AK i _ (Array.getElem?_eq_getElem hi);refine⟨i,en[i],by omega,?_,Array.getElem?_eq_getElem hi,?_,md⟩
   ·rw[<- he,md]at hs
    simpa using hs
   ·rw[he];exact Array.getElem?_eq_getElem hj
  have fin:∀ (j d:Nat),j<left.size->((Instr.next (.pointer (some ⟨rv,0,none⟩)) false ty).run P w=(match ((#[]:Array (Option MapEntry))++(left ++ #[]).map some)[j]? with
    | some (some e)=>(do setObj rv (.mapIter (some m) c (seen.push e.born) c);pure (.tuple #[.bool true,e.key,e.val]):Sem Value)
    | some none=>pure (.tuple #[.bool false])
    | none => stuck "Next: no such candidate").run P { w with drawn := d }) -> ∃ (i : Nat) (e : MapEntry) (d : Nat), i < c /\ seen.contains i = false /\ en[i]? = some e /\ (Instr.next (.pointer (some ⟨rv, 0, none⟩)) false ty).run P w = .ok (.tuple #[.bool true, e.key, e.val]) { w with drawn := d, heap := w.heap.setIfInBounds rv (.mapIter (some m) c (seen.push i) c) } := by
   intro j d hj bt;obtain⟨i,e,h1,h2,h3,h4,h5⟩:=pick j d hj;refine⟨i,e,d,h1,h2,h3,?_⟩;rw[bt];have:((#[]:Array (Option MapEntry))++(left ++ #[]).map some)[j]?=some (some e):=by simp[h4]
   simp only[this,h5];simp[setObj,Sem.run,Sem.run_bind,hr]
  by_cases hf:(Question.mapNext left.size).forced=true
  ·refine fin 0 w.drawn AT ?_
   simp only[Instr.next,getObj,Sem.run_bind,Sem.run,hr,Result.andThen,hm];simp only[ri,kZ,hold,rk,EI];simp[choose,Sem.run,Sem.run_bind,hf];rfl
  ·refine fin (w.tape w.drawn (.mapNext left.size)%left.size) (w.drawn+1) (Nat.mod_lt _ AT) ?_
   simp only[Instr.next,getObj,Sem.run_bind,Sem.run,hr,Result.andThen,hm];simp only[ri,kZ,hold,rk,EI];simp[choose,Sem.run,Sem.run_bind,hf,Question.cut];rfl
theorem CI{dst:Option Nat}{x:Operand}{ty:TypeId}{pos:String}{after:Array Edge}{guard:Option (Nat×Bool)}{e:Env}{h:aq}{s:σ}{go:Env->aq->σ->Prop}{L:Loc}{F:Nat->Nat}{a:Act}{w:World}
  (hg:Good cx r m L F ⟨e,h,s⟩ a w) (ue:∀ d,dst=some d->d<a.tmps.size) (hk:HA dst x e h s go)
  {next:Act->World->Prop} {Q:Exit->Act->World->Prop} (Co:∀ e' h' s' L' F' a' w',Good cx r m L' F' ⟨e',h',s'⟩ a' w'->a'.tmps.size=a.tmps.size->Tr F w F' w'->go e' h' s'->next a' w') :
  Oper.wpIn (fr r) 0 P ⟨dst,.next x false,ty,pos,after,guard⟩ a w next Q:=by
 unfold HA at hk;split at hk;case h_2=>exact hk.elim
 rename_i id hx;split at hk;case h_2=>exact hk.elim
 rename_i v n todo cur dR;split at hk;case h_2=>exact hk.elim
 rename_i b0 zh;obtain⟨hn,h0,h1⟩:=hk;have cF:a.eval x = .pointer (some ⟨L.ρ id,0,none⟩):=hg.aH hx;obtain⟨rb,seen,hv,hb,Hl,_⟩:=hg.heap.obj id _ dR;obtain⟨en,c,hm,hr,ql⟩:=Hv hg (fun _ _ h=>h) zh hv;have cY:en.size=n:=by rw[<- hn];simpa using bE.get hr
 refine⟨fun _ _=>trivial,?_⟩;rw[Oper.semAt_eq _ _ _ (fun c e=>by cases e)];rcases Bz (P:=P) (ty:=ty) hb hm ql cY with⟨ri,d,bt⟩|⟨i,As,d,hi,hs,Mp,bt⟩
 ·have SI:todo = []:=by
   rw[List.eq_nil_iff_forall_not_mem];intro i hi;obtain⟨h2,h3⟩:=(Hl i).1 hi;rw[ri i h2]at h3;cases h3
  have hk:=h0 SI;have AV:(execOp a.eval ⟨dst,.next x false,ty,pos,after,guard⟩).run P w = .ok (.value (.tuple #[.bool false])) { w with drawn:=d }:=by simp[execOp,cF,bt]
  rw[AV];have fP:=hg.same (w':={ w with drawn:=d }) rfl rfl rfl rfl;have mf:=fP.aO (d:=dst) (v:=.d (.tup [.bool false])) (x:=.tuple #[.bool false]) ue ⟨_,rfl,_,_,rfl,rfl,rfl⟩;simp only at hk;rw[cu s]at hk;have te:(aF (⟨e,h,s⟩:St σ) (aO dst (.d (.tup [.bool false])))).s=s:=cV _ _;generalize (aF (⟨e,h,s⟩:St σ) (aO dst (.d (.tup [.bool false]))))=sL at hk mf te;obtain⟨e2,h2,s2⟩:=sL;simp only at hk te;subst te;exact Co _ _ _ _ _ _ _ mf (dz _) (Tr.drew d) hk
 ·have fk:i∈todo:=(Hl i).2 ⟨hi,hs⟩
  obtain⟨k,u,Sz,pM,WG⟩:∃ k u,b0[i]?=some (k,u)/\bD F w k As.key/\bD F w u As.val:=bE.at hr (by simpa using Mp);have hk:=h1 i (k,u) fk Sz;simp only at hk;have AV:(execOp a.eval ⟨dst,.next x false,ty,pos,after,guard⟩).run P w = .ok (.value (.tuple #[.bool true,As.key,As.val])) { w with drawn:=d,heap:=w.heap.setIfInBounds (L.ρ id) (.mapIter (some rb) n (seen.push i) n) }:=by simp[execOp,cF,bt]
  rw[AV];have fP:=hg.same (w':={ w with drawn:=d }) rfl rfl rfl rfl;have dI:=(Array.getElem?_eq_some_iff.1 hb).1;have Kh:Tr F w F { w with drawn:=d }:=Tr.drew d;have yq:Tr F w F { w with drawn:=d,heap:=w.heap.setIfInBounds (L.ρ id) (.mapIter (some rb) n (seen.push i) n) }:=by
   refine .gz rfl rfl rfl (by simp) (fun _=>Nat.le_refl _) hg.heap.fresh fun b _ hF=>?_;have:L.ρ id≠b:=by rintro rfl;have:=(hg.heap.own id _ dR trivial).1;omega
   simp[Array.getElem?_setIfInBounds_ne this]
  obtain⟨g1,g2⟩:=fP.obj (o:=.mit v n (todo.filter fun j=>!Nat.beq j i) (some i)) (id:=id) dR trivial (w':={ w with drawn:=d,heap:=w.heap.setIfInBounds (L.ρ id) (.mapIter (some rb) n (seen.push i) n) }) rfl rfl rfl (by simp) (fun y hy=>by simp[Array.getElem?_setIfInBounds_ne (Ne.symm hy)])
   (by intro ds;show w.heap[L.ρ id]?≠_;rw[hb];intro e;cases e) (by intro lp;show w.heap[L.ρ id]?≠_;rw[hb];intro e;cases e)
   ⟨rb,seen.push i,aT.mono yq v _ (fun _ _=>⟨rfl,rfl⟩) hv,by simp[Array.getElem?_setIfInBounds,dI],fun j=>by
    have V5:Nat.beq j i=false↔j≠i:=by
     rw[Bool.eq_false_iff];exact⟨fun h e=>h (by subst e;simp),fun h e=>h (Nat.eq_of_beq_eq_true e)⟩
    simp only[List.mem_filter,Hl,Bool.not_eq_true',V5,Array.contains_push,Bool.or_eq_false_iff,beq_eq_false_iff_ne];constructor
    ·rintro ⟨⟨p1,p2⟩,p3⟩;exact⟨p1,p2,fun e=>p3 e⟩
    ·rintro ⟨p1,p2,p3⟩;exact⟨⟨p1,p2⟩,fun e=>p3 e⟩,fun j ej=>by cases ej;simp⟩
  have mf:=g1.aO (d:=dst) (v:=.d (.tup [.bool true,k,u])) (x:=.tuple #[.bool true,As.key,As.val]) ue ⟨_,rfl,_,_,rfl,rfl,_,_,rfl,bD.mono yq _ _ pM,_,_,rfl,bD.mono yq _ _ WG,rfl⟩;rw[cu s]at hk;have te:(aF (⟨e,h,s⟩:St σ) (.obj id (.mit v n (todo.filter fun j=>!Nat.beq j i) (some i))::aO dst (.d (.tup [.bool true,k,u])))).s=s:=cV _ _;have key:∀ (sL:St σ),Good cx r m L F sL (a.put dst (.tuple #[.bool true,As.key,As.val])) { w with drawn:=d,heap:=w.heap.setIfInBounds (L.ρ id) (.mapIter (some rb) n (seen.push i) n) }->sL.s=s->go sL.env sL.heap s->next (a.put dst (.tuple #[.bool true,As.key,As.val])) { w with drawn:=d,heap:=w.heap.setIfInBounds (L.ρ id) (.mapIter (some rb) n (seen.push i) n) }:=by
   rintro ⟨e2,h2,s2⟩ q1 q2 q3;simp only at q2 q3;subst q2;exact Co _ _ _ _ _ _ _ q1 (dz _) yq q3
  exact key _ mf te hk
theorem Dl(hT:bl P T)(hY:dp P Y cx){ops:Array Oper}{i:Nat}{dst:Option Nat}{op:Op}{ty:TypeId}{pos:String}{after:Array Edge}{guard:Option (Nat×Bool)}(h0:ops[i]?=some ⟨dst,op,ty,pos,after,guard⟩){e:Env}{h:aq}{s:σ}{go:Env->aq->σ->Prop}{L:Loc}{F:Nat->Nat}{a:Act}{w:World}
  (hg:Good cx r m L F ⟨e,h,s⟩ a w) (ue:∀ d,dst=some d->d<a.tmps.size)
  (hk:mC ops.toList e guard (fun w=>bg w e h fun e h=>Eh P T Y dst op e h s go) (fun w=>bg w e h fun e h=>bg (aO dst (.d (.tup []))) e h fun e h=>go e h s))
  {next:Act->World->Prop} {Q:Exit->Act->World->Prop} (Co:∀ e' h' s' L' F' a' w',Good cx r m L' F' ⟨e',h',s'⟩ a' w'->a'.tmps.size=a.tmps.size->Tr F w F' w'->go e' h' s'->next a' w') (He:∀ e a' w',pZ Y cx r F w a.tmps.size e a' w'->Q e a' w'):wpOpIn (fr r) 0 P ops Q i next a w:=by
  simp only[wpOpIn,h0];obtain⟨Sl,Y9,Cn⟩:=GP (s:=s) (h:=h) (dst:=dst) (op:=op) (ty:=ty) (pos:=pos) (after:=after) hk (fun _ _ h=>h) hg;clear hk;obtain⟨fP,AM⟩:=hg.RV Cn;rcases Y9 with⟨hw,hk⟩|⟨hw,hk⟩
  ·rw[hw]
   simp only[if_true];rw[cu s]at hk;have M6:(aF (⟨e,h,s⟩:St σ) Sl).s=s:=cV _ _;generalize (aF (⟨e,h,s⟩:St σ) Sl)=zK at hk fP M6;obtain⟨e1,h1,s1⟩:=zK;simp only at hk M6;subst M6;have fin:∀ {o:Oper} {ws:List Wr},o=⟨dst,op,ty,pos,after,guard⟩->Out P e1 h1 o ws->bg ws e1 h1 (fun e h=>go e h s1)->(∀ c,op ≠ .defer c) ->
     Oper.wpIn (fr r) 0 P ⟨dst,op,ty,pos,after,guard⟩ a w next Q:=by
    intro o ws ho iR hk wD;subst ho;refine Br iR (st:=⟨e1,h1,s1⟩) (fun _ _ h=>h) (fun _ _ h=>h) fP ue wD fun x L' F' w' eL nA=>?_;rw[cu s1]at hk;have te:(aF (⟨e1,h1,s1⟩:St σ) ws).s=s1:=cV _ _;generalize (aF (⟨e1,h1,s1⟩:St σ) ws)=sL at hk eL te;obtain⟨e2,h2,s2⟩:=sL;simp only at hk te;subst te;exact Co _ _ _ _ _ _ _ eL (dz _) nA hk
   by_cases cJ:∃ c,op = .call c
   ·obtain⟨⟨callee,args,tys⟩,rfl⟩:=cJ
    cases callee with
    | builtin b=>
     obtain⟨ws,hk,iR⟩:=qQ (P:=P) (e:=e1) (h:=h1) (dst:=dst) (b:=b) (args:=args) (tys:=tys) (K:=fun ws=>bg ws e1 h1 fun e h=>go e h s1) (ty:=ty) (pos:=pos) (after:=after) (guard:=guard) hT hk;exact fin rfl iR hk (fun c e=>by cases e)
    | invoke f n=>
     have hk:M9 P Y dst f n args.toList e1 h1 s1 go:=hk;unfold M9 at hk;split at hk;case h_3=>exact hk.elim
     ·rename_i t v l' hf qD
      obtain⟨g,hm,hk⟩:=hk;obtain⟨lV,cJ⟩:=hk;obtain⟨y,cF,hv⟩:=fP.aH hf;have bR:=AZ fP qD hv;have cJ:=cJ cx hY r m L F a w (#[y]++args.map a.eval) fP ue bR;have bt:=ur (P:=P) hm lV cF (w:=w) (dst:=dst) (args:=args) (tys:=tys) (ty:=ty) (pos:=pos) (after:=after) (guard:=guard);refine⟨fun _ _=>trivial,?_⟩;rw[Oper.semAt_eq _ _ _ (fun c e=>by cases e),bt,Oper.uponIn_enter];refine⟨(fun h=>by cases h),(fN cJ).mono ?_⟩;rintro en w' (⟨x,rfl,dm,L',F',jc,eL,nA⟩|⟨pv,pe,ph,ps,L',F',rfl,hy,Jf,Ki⟩);case inr=>exact He _ _ _ ⟨pv,pe,ph,ps,m,L',F',rfl,hy,Jf,Ki,rfl⟩
      obtain⟨e2,h2,s2⟩:=dm;exact Co _ _ _ _ _ _ _ eL (dz _) nA jc
     ·rename_i t v l' hf qD
      obtain⟨g,hm,hk⟩:=hk;obtain⟨lV,cJ⟩:=hk;obtain⟨y,cF,hv⟩:=(fP.aH hf).ifc;have bR:=xK fP qD hv;have cJ:=cJ cx hY r m L F a w (#[y]++args.map a.eval) fP ue bR;have bt:=ur (P:=P) hm lV cF (w:=w) (dst:=dst) (args:=args) (tys:=tys) (ty:=ty) (pos:=pos) (after:=after) (guard:=guard);refine⟨fun _ _=>trivial,?_⟩;rw[Oper.semAt_eq _ _ _ (fun c e=>by cases e),bt,Oper.uponIn_enter];refine⟨(fun h=>by cases h),(fN cJ).mono ?_⟩;rintro en w' (⟨x,rfl,dm,L',F',jc,eL,nA⟩|⟨pv,pe,ph,ps,L',F',rfl,hy,Jf,Ki⟩);case inr=>exact He _ _ _ ⟨pv,pe,ph,ps,m,L',F',rfl,hy,Jf,Ki,rfl⟩
      obtain⟨e2,h2,s2⟩:=dm;exact Co _ _ _ _ _ _ _ eL (dz _) nA jc
    | value f=>
     have hk:Gj P Y dst f args.toList e1 h1 s1 (go):=hk;unfold Gj at hk;have call:∀ (g:FuncId) (Al:List V) (lc:Array Value) (l':List V),cE e1 args.toList=some l'->a.eval f = .func (.func g) #[] lc->aj cx.yv L F w Al lc.toList ->
       dK P Y ⟨e1,h1,s1⟩ dst g (l'++Al) (fun|⟨e,h,s⟩=>go e h s) ->
       Oper.wpIn (fr r) 0 P ⟨dst,.call ⟨.value f,args,tys⟩,ty,pos,after,guard⟩ a w next Q:=by
      intro g Al lc l' qD cF kq hc;obtain⟨lV,cJ⟩:=hc;have bR:aj cx.yv L F w (l'++Al) (args.map a.eval++lc).toList:=by
       simpa using (fP.cE qD).append kq
      have cJ:=cJ cx hY r m L F a w (args.map a.eval++lc) fP ue bR;have bt:(execOp a.eval ⟨dst,.call ⟨.value f,args,tys⟩,ty,pos,after,guard⟩).run P w = .ok (.enter g (args.map a.eval++lc)) w:=by
       simp[execOp,resolve,Deferred.ofValue,cF,invoke,lV]
      refine⟨fun _ _=>trivial,?_⟩;rw[Oper.semAt_eq _ _ _ (fun c e=>by cases e),bt,Oper.uponIn_enter];refine⟨(fun h=>by cases h),(fN cJ).mono ?_⟩;rintro en w' (⟨x,rfl,dm,L',F',jc,eL,nA⟩|⟨pv,pe,ph,ps,L',F',rfl,hy,Jf,Ki⟩);case inr=>exact He _ _ _ ⟨pv,pe,ph,ps,m,L',F',rfl,hy,Jf,Ki,rfl⟩
      obtain⟨e2,h2,s2⟩:=dm;exact Co _ _ _ _ _ _ _ eL (dz _) nA jc
     split at hk
     ·rename_i g aL l' hf qD
      obtain⟨lc,cF,kq⟩:=fP.aH hf;exact call g (inj aL) lc l' qD cF (aj.inj.2 kq) hk
     ·rename_i g aL l' hf qD
      obtain⟨lc,cF,kq⟩:=fP.aH hf;exact call g aL lc l' qD cF kq hk
     ·rename_i g first l' hf qD
      obtain⟨lf,cF,zf⟩:=fP.aH hf;obtain⟨lV,cJ⟩:=hk;have bR:aj cx.yv L F w (inj first++l') (lf++args.map a.eval).toList:=by
       simpa using (aj.inj.2 zf).append (fP.cE qD)
      have cJ:=cJ cx hY r m L F a w (lf++args.map a.eval) fP ue bR;have bt:(execOp a.eval ⟨dst,.call ⟨.value f,args,tys⟩,ty,pos,after,guard⟩).run P w = .ok (.enter g (lf++args.map a.eval)) w:=by
       simp[execOp,resolve,Deferred.ofValue,cF,invoke,lV]
      refine⟨fun _ _=>trivial,?_⟩;rw[Oper.semAt_eq _ _ _ (fun c e=>by cases e),bt,Oper.uponIn_enter];refine⟨(fun h=>by cases h),(fN cJ).mono ?_⟩;rintro en w' (⟨x,rfl,dm,L',F',jc,eL,nA⟩|⟨pv,pe,ph,ps,L',F',rfl,hy,Jf,Ki⟩);case inr=>exact He _ _ _ ⟨pv,pe,ph,ps,m,L',F',rfl,hy,Jf,Ki,rfl⟩
      obtain⟨e2,h2,s2⟩:=dm;exact Co _ _ _ _ _ _ _ eL (dz _) nA jc
     ·rename_i l' hf qD
      obtain⟨lp,wL,cF⟩:=fP.aH hf;obtain⟨hc⟩:=hk;have bR:aj cx.yv L F w l' (args.map a.eval).toList:=by simpa using fP.cE qD
      obtain⟨fn,tmps,zU,body,AV,MU⟩:=hc cx hY lp wL r m L F a w (args.map a.eval) fP ue bR;have bt:(execOp a.eval ⟨dst,.call ⟨.value f,args,tys⟩,ty,pos,after,guard⟩).run P w = .ok (.round lp fn tmps zU body) w:=by
       simp[execOp,resolve,Deferred.ofValue,cF,invoke,AV]
      refine⟨fun _ _=>trivial,?_⟩;rw[Oper.semAt_eq _ _ _ (fun c e=>by cases e),bt,Oper.uponIn_round];refine⟨(fun h=>by cases h),(CZ MU).mono ?_⟩;rintro en w' ⟨x,rfl,dm,L',F',jc,eL,nA⟩;obtain⟨e2,h2,s2⟩:=dm;exact Co _ _ _ _ _ _ _ eL (dz _) nA jc
     ·exact hk.elim
   ·by_cases QZ:∃ b t x y ty,op = .binOp b t x y ty
    ·obtain⟨b,t,x,y,ty',rfl⟩:=QZ
     have hk:(match zx T e1 b t x y with
      | some (neg,ne)=>NU neg ne fun b=>bg (aO dst (.d (.bool b))) e1 h1 fun e h=>go e h s1
      | none=>fK T e1 h1 dst (.binOp b t x y ty') fun ws=>bg ws e1 h1 fun e h=>go e h s1):=hk
     split at hk
     ·rename_i neg ne hn
      obtain⟨hk⟩:=hk;obtain⟨bb,nY,bt⟩:=HB (P:=P) hT hn (st:=⟨e1,h1,s1⟩) (fun _ _ h=>h) fP (dst:=dst) (ty:=ty) (ty':=ty') (pos:=pos) (after:=after) (guard:=guard);have hk:=hk bb nY;have mf:=fP.aO (d:=dst) (v:=.d (.bool (yr neg bb))) (x:=.bool (yr neg bb)) ue rfl;refine⟨fun _ _=>trivial,?_⟩;rw[Oper.semAt_eq _ _ _ (fun c e=>by cases e),bt];rw[cu s1]at hk;have te:(aF (⟨e1,h1,s1⟩:St σ) (aO dst (.d (.bool (yr neg bb))))).s=s1:=cV _ _;generalize (aF (⟨e1,h1,s1⟩:St σ) (aO dst (.d (.bool (yr neg bb)))))=sL at hk mf te;obtain⟨e2,h2,s2⟩:=sL;simp only at hk te;subst te;exact Co _ _ _ _ _ _ _ mf (dz _) (Tr.refl F w) hk
     ·obtain⟨ws,hk,iR⟩:=zz (P:=P) (ty:=ty) (pos:=pos) (after:=after) (guard:=guard) hT hk
      exact fin rfl iR hk (fun c e=>by cases e)
    by_cases KY:∃ x,op = .next x false
    ·obtain⟨x,rfl⟩:=KY
     exact CI (P:=P) (ty:=ty) (pos:=pos) (after:=after) (guard:=guard) fP ue hk Co
    by_cases KZ:∃ x,op = .panic x
    ·obtain⟨x,rfl⟩:=KZ
     have hk:Ni Y x e1 h1 s1:=hk;unfold Ni at hk;split at hk;case h_2=>exact hk.elim
     rename_i t k n hx;have cF:a.eval x = .iface t (.int k n):=by
      obtain⟨y,h2,h3⟩:=fP.aH hx;have h3:y = .int k n:=h3;rw[h2,h3]
     refine⟨fun _ _=>trivial,?_⟩;have bt:(execOp a.eval ⟨dst,.panic x,ty,pos,after,guard⟩).run P w = .halt (.panic (.iface t (.int k n))) w:=by
      simp[execOp,cF,Instr.panic,goPanic]
     rw[Oper.semAt_eq _ _ _ (fun c e=>by cases e),bt];exact He _ _ _ ⟨_,e1,h1,s1,m,L,F,rfl,hk,fP,Tr.refl F w,rfl⟩
    rw[Ii (fun c hc=>cJ ⟨c,hc⟩) (fun b t x y ty hc=>QZ ⟨b,t,x,y,ty,hc⟩) (fun x hc=>KY ⟨x,hc⟩) (fun x hc=>KZ ⟨x,hc⟩)]at hk;have wD:∀ c,op ≠ .defer c:=fun c hc=>by subst hc;exact hk
    obtain⟨ws,hk,iR⟩:=zz (P:=P) (ty:=ty) (pos:=pos) (after:=after) (guard:=guard) hT hk;exact fin rfl iR hk wD
  ·rw[hw]
   simp only[Bool.false_eq_true,if_false];refine⟨fun _ _=>trivial,?_⟩;rw[cu s]at hk;have M6:(aF (⟨e,h,s⟩:St σ) Sl).s=s:=cV _ _;generalize (aF (⟨e,h,s⟩:St σ) Sl)=zK at hk fP M6;obtain⟨e1,h1,s1⟩:=zK;simp only at hk M6;subst M6;rw[cu s1]at hk;have mf:=fP.aO (d:=dst) (v:=.d (.tup [])) (x:=undef) ue ⟨#[],rfl,rfl⟩;have te:(aF (⟨e1,h1,s1⟩:St σ) (aO dst (.d (.tup [])))).s=s1:=cV _ _;generalize (aF (⟨e1,h1,s1⟩:St σ) (aO dst (.d (.tup []))))=sL at hk mf te;obtain⟨e2,h2,s2⟩:=sL;simp only at hk te;subst te;exact Co _ _ _ _ _ _ _ mf (dz _) (Tr.refl F w) hk
theorem oI(hT:bl P T)(hY:dp P Y cx){ops:Array Oper}{F0:Nat->Nat}{w0:World}{n0:Nat}:∀ (l:List Oper) (i:Nat) (hl:∀ j,l[j]?=ops[i+j]?) {e:Env} {h:aq} {s:σ} {K:Env->aq->σ->Prop} {L:Loc} {F:Nat->Nat} {a:Act} {w:World},
  Good cx r m L F ⟨e,h,s⟩ a w->a.tmps.size=n0->(∀ o∈l,∀ d,o.dst=some d->d<n0)->Tr F0 w0 F w->wpOps P T Y ops.toList l e h s K ->
  wpOpsIn (fr r) 0 P ops (uA Y cx r m F0 w0 n0 K) (List.range' i l.length) a w
 | [],i,hl,e,h,s,K,L,F,a,w,hg,hs,hd,tr,hk=>.inl ⟨e,h,s,L,F,rfl,hk,hg,tr,hs⟩
 | ⟨dst,op,ty,pos,after,guard⟩::l,i,hl,e,h,s,K,L,F,a,w,hg,hs,hd,tr,hk=>by
  rw[wpOps_cons]at hk;have h0:ops[i]?=some ⟨dst,op,ty,pos,after,guard⟩:=by simpa using (hl 0).symm
  have kQ:∀ j,l[j]?=ops[i+1+j]?:=fun j=>by have:=hl (j+1);simpa[Nat.add_assoc,Nat.add_comm 1 j]using this
  have ue:∀ d,dst=some d->d<a.tmps.size:=fun d Q8=>by rw[hs];exact hd _ (List.mem_cons_self ..) d Q8
  have YW:∀ o∈l,∀ d,o.dst=some d->d<n0:=fun o ho=>hd o (List.mem_cons_of_mem _ ho);rw[List.length_cons,List.range'_succ,wpOpsIn_cons];exact Dl hT hY h0 hg ue hk (fun e' h' s' L' F' a' w' eL Hi nA jc=>oI hT hY l (i+1) kQ eL (Hi.trans hs) YW (Tr.trans tr nA) jc) fun e' a' w' hp=>.inr (hp.trans tr hs)
end
section
variable {F : Fence} {n : Nat} {P : Program} {Q : Exit -> Act -> World -> Prop} {a : Act} {w : World} {b : Frame} {k : List Item} {cs : List Frame}
theorem g5{c:Code}:step P (lone (b.atR a (.code (.scope c)::k)) cs w) = .next (lone (b.atR a (.code c :: .inScope c::k)) cs w):=
 step_lone_go (by simp[stepG,stepG.exec,Frame.atR])
theorem wZ{c:Code}:step P (lone (b.atR a (.inScope c::k)) cs w) = .next (lone (b.atR a k) cs w):=
 step_lone_go (by simp[stepG,stepG.exec,Frame.atR])
theorem Dk{c:Code}(h:c.wpIn F n P (Exit.noGoto Q) a w):(Code.scope c).wpIn F n P Q a w:=by
 intro b k cs ZC hb hr;have h0:(lone (b.atR a (.code (.scope c)::k)) cs w).fenced P F:=fenced_calm hb hr rfl;obtain⟨e,a₁,w₁,hq,EH⟩:=h b (.inScope c::k) cs ZC hb hr
 cases e with
 | normal=>exact⟨.normal,a₁,w₁,hq,.head h0 g5 (StepsIn.trans EH (.one (fenced_calm hb hr rfl) wZ))⟩
 | exit mI=>
  have hx:exitTo mI (.inScope c::k)=exitTo mI k:=by simp[exitTo]
  exact⟨.exit mI,a₁,w₁,hq,fun k' hk=>.head h0 g5 (EH.1 k' (by rw[hx];exact hk)),
   fun EV hk=>let ⟨k₁,h1,h2⟩:=EH.2 EV (by rw[hx];exact hk);⟨k₁,h1,.head h0 g5 h2⟩⟩
 | goto l=>exact hq.elim
 | ret=>exact⟨_,a₁,w₁,hq,.of_steps (.one h0 g5) EH⟩
 | panic ch=>exact⟨_,a₁,w₁,hq,.of_steps (.one h0 g5) EH⟩
 | outgrown=>exact⟨_,a₁,w₁,hq,.of_steps (.one h0 g5) EH⟩
end
def FY(P:Program)(T:dV)(ops:Array Oper)(rt:RT):Prop:=
 ∀ {σ:Type} (cx:Cx σ),rY P cx -> ∀ (r:Option Nat) (m:List Nat) (L:Loc) (F:Nat->Nat) (e:Env) (h:aq) (s:σ) (a:Act) (w:World) (K:Env->aq->Prop),
  Good cx r m L F ⟨e,h,s⟩ a w->(∀ o∈ops.toList,∀ d,o.dst=some d->d<a.tmps.size)->sY rt.made e h (fun e h=>Dj P T rt.made ops.toList (ops.toList.zip rt.fF) [] e h K) ->
  ∀ id,(Code.region id ops true).wpIn (fr r) 0 P (Dr cx r m F w a.tmps.size fun e h s'=>K e h/\s'=s) a w
def cy(P:Program)(T:dV)(ft:FT):Code->Prop
 | .region id ops draw=>draw=true -> ∀ rt,get ft.tb id=some rt->FY P T ops rt
 | .seq a b=>cy P T ft a/\cy P T ft b
 | .cond _ a b=>cy P T ft a/\cy P T ft b
 | .block _ a=>cy P T ft a
 | .loop a=>cy P T ft a
 | .scope a=>cy P T ft a
 | .rangeFunc _ _ a b=>cy P T ft a/\cy P T ft b
 | _=>True
theorem g6{α:Type}(l:List Nat)(t:sW α):cN (aQ l t) t:=by
 induction t with
 | nil=>exact fun _ _ h=>h
 | cons kv r ih=>
  obtain⟨k,v⟩:=kv;intro s u hu;simp only[aQ]at hu;split at hu
  ·simp only[get]at hu ⊢
   split at hu
   ·exact hu
   ·exact ih s u hu
  ·rename_i hk
   have key:∀ (t:sW α) (s:Nat) (u:α),get (aQ l t) s=some u->tQ l s=true:=by
    intro t
    induction t with
    | nil=>intro s u h;cases h
    | cons kv r ih=>
     obtain⟨k,v⟩:=kv;intro s u h;simp only[aQ]at h;split at h
     ·rename_i hk
      simp only[get]at h;split at h
      ·rename_i he;have:=Nat.eq_of_beq_eq_true he;subst this;exact hk
      ·exact ih s u h
     ·exact ih s u h
   have hs:=key r s u hu;simp only[get];split
   ·rename_i he
    have:=Nat.eq_of_beq_eq_true he;subst this;rw[hs]at hk;cases hk
   ·exact ih s u hu
section
variable {P : Program} {T : dV} {ft : FT} {σ : Type} {Y : Hd σ}
theorem vI{n:Nat}{id:Nat}{ops:Array Oper}{draw:Bool}(h:codeOk n (.region id ops draw)=true):∀ o∈ops.toList,∀ d,o.dst=some d->d<n:=by
 intro o ho d hd;have:=List.all_eq_true.1 (show ops.toList.all _=true from h) o ho;rw[hd]at this;simpa using this
theorem cL(hT:bl P T):∀ (c:Code),cy P T ft c -> ∀ (st:St σ) (K:dX->St σ->Prop),Di P T ft Y c st K->wG P Y c st K
 | .skip,_,st,K,h=>fun cx hY r m L F a w hg hc=>wpIn_skip (.inl ⟨.normal,st,m,L,F,rfl,h,hg,Tr.refl F w,rfl⟩)
 | .exit i,_,st,K,h=>fun cx hY r m L F a w hg hc=>wpIn_exit (.inl ⟨.exit i,st,m,L,F,rfl,h,hg,Tr.refl F w,rfl⟩)
 | .ret,_,st,K,h=>fun cx hY r m L F a w hg hc=>wpIn_ret (.inl ⟨.ret,st,m,L,F,rfl,h,hg,Tr.refl F w,rfl⟩)
 | .label l,_,st,K,h=>fun cx hY r m L F a w hg hc=>wpIn_label (.inl ⟨.normal,st,m,L,F,rfl,h,hg,Tr.refl F w,rfl⟩)
 | .goto l,_,st,K,h=>False.elim h
 | .refuse y,_,st,K,h=>False.elim h
 | .loop c,_,st,K,h=>by obtain⟨h⟩:=(show uy P ft Y c st K from h);exact h
 | .rangeFunc g ps a b,_,st,K,h=>by obtain⟨h⟩:=(show jw P ft Y g ps a b st K from h);exact h
 | .scope c,hD,st,K,h=>fun cx hY r m L F a w hg hc=>by
  have:=cL hT c hD st K h cx hY r m L F a w hg hc;exact Dk (wpIn_mono this fun ex a' w' hq=>by
   rcases hq with⟨e',dm,m',L',F',rfl,hk⟩|hp
   ·cases e'<;>exact .inl ⟨_,dm,m',L',F',rfl,hk⟩
   ·have EU:=hp
    obtain⟨v,pe,ph,ps,m',L',F',rfl,_⟩:=hp;exact .inr EU)
 | .seq x y,hD,st,K,h=>fun cx hY r m L F a w hg hc=>by
  simp only[codeOk,Bool.and_eq_true]at hc;have:=cL hT x hD.1 st _ h cx hY r m L F a w hg hc.1;refine wpIn_seq (wpIn_mono this fun ex a' w' hq=>?_);rcases hq with⟨e',dm,m',L',F',rfl,hk,eL,tr,hs⟩|hp
  case inr=>
   have EU:=hp;obtain⟨v,pe,ph,ps,m',L',F',rfl,_⟩:=hp;exact .inr EU
  cases e' with
  | normal=>
   refine wpIn_mono (cL hT y hD.2 dm K hk cx hY r m' L' F' a' w' eL (by rw[hs];exact hc.2)) fun ex Ku Em hq=>?_;rcases hq with⟨To,Ke,ZY,Lk,Iy,rfl,jc,Mv,nA,Hi⟩|hp
   ·exact .inl ⟨To,Ke,ZY,Lk,Iy,rfl,jc,Mv,Tr.trans tr nA,Hi.trans hs⟩
   ·exact .inr (hp.trans tr hs)
  | exit i=>exact .inl ⟨.exit i,dm,m',L',F',rfl,hk,eL,tr,hs⟩
  | ret=>exact .inl ⟨.ret,dm,m',L',F',rfl,hk,eL,tr,hs⟩
 | .cond c x y,hD,st,K,h=>fun cx hY r m L F a w hg hc=>by
  simp only[codeOk,Bool.and_eq_true]at hc;obtain⟨e,hp,s⟩:=st;have h:Gs (aH e c) (Di P T ft Y x ⟨e,hp,s⟩ K) (Di P T ft Y y ⟨e,hp,s⟩ K):=h;unfold Gs at h;split at h
  ·rename_i t ht
   have cF:a.eval c = .bool t:=hg.aH ht;rcases uM h with⟨rfl,h⟩|⟨rfl,h⟩
   ·exact wpIn_cond cF (cL hT x hD.1 _ K h cx hY r m L F a w hg hc.1)
   ·exact wpIn_cond cF (cL hT y hD.2 _ K h cx hY r m L F a w hg hc.2)
  ·exact h.elim
 | .block i c,hD,st,K,h=>fun cx hY r m L F a w hg hc=>by
  have:=cL hT c hD st (B9 i K) h cx hY r m L F a w hg hc;refine wpIn_block (wpIn_mono this fun ex a' w' hq=>?_);rcases hq with⟨e',dm,m',L',F',rfl,hk,jm⟩|hp
  case inr=>
   have EU:=hp;obtain⟨v,pe,ph,ps,m',L',F',rfl,_⟩:=hp;exact .inr EU
  cases e' with
  | normal=>exact .inl ⟨.normal,dm,m',L',F',rfl,hk,jm⟩
  | ret=>exact .inl ⟨.ret,dm,m',L',F',rfl,hk,jm⟩
  | exit j=>
   simp only[dX.LK,Exit.inBlock];simp only[B9]at hk;split at hk
   ·rename_i px
    rw[if_pos (Nat.eq_of_beq_eq_true px)];exact .inl ⟨.normal,dm,m',L',F',rfl,hk,jm⟩
   ·rename_i px
    rw[if_neg (by rintro rfl;simp at px)];exact .inl ⟨.exit j,dm,m',L',F',rfl,hk,jm⟩
 | .region id ops draw,hD,st,K,h=>fun cx hY r m L F a w hg hc=>by
  obtain⟨e,hp,s⟩:=st;have fin:∀ {ex:Exit} {a':Act} {w':World} {e':Env} {h':aq} {s':σ} {L':Loc} {F':Nat->Nat},ex = .normal->eB (aQ ft.ks e') (fun e=>K .normal ⟨e,h',s'⟩)->Good cx r m L' F' ⟨e',h',s'⟩ a' w'->Tr F w F' w'->a'.tmps.size=a.tmps.size ->
    (∃ (e':dX) (dm:St σ) (m':List Nat) (L':Loc) (F':Nat->Nat),ex=e'.LK/\K e' dm/\Good cx r m' L' F' dm a' w'/\Tr F w F' w'/\a'.tmps.size=a.tmps.size)\/pZ Y cx r F w a.tmps.size ex a' w':=by
   intro ex a' w' e' h' s' L' F' hex hk eL tr hs;rw[gO]at hk;exact .inl ⟨.normal,_,m,L',F',hex,hk,eL.sub (g6 ft.ks e') (fun _ _ h=>h),tr,hs⟩
  cases draw with
  | false=>
   have h:wpOps P T Y ops.toList ops.toList e hp s (fun e h s=>eB (aQ ft.ks e) fun e=>K .normal ⟨e,h,s⟩):=h;refine wpIn_mono (wpIn_region (id:=id) (Q:=uA Y cx r m F w a.tmps.size (fun e h s=>eB (aQ ft.ks e) fun e=>K .normal ⟨e,h,s⟩)) ?_) fun ex a' w' hq=>?_
   ·have:=oI hT hY ops.toList 0 (fun j=>by simp) hg rfl (vI hc) (Tr.refl F w) h
    rwa [<- List.range_eq_range',Array.length_toList]at this
   ·rcases hq with⟨e',h',s',L',F',hex,hk,eL,tr,hs⟩|hp
    ·exact fin hex hk eL tr hs
    ·exact .inr hp
  | true=>
   have h:(match get ft.tb id with
    | some ⟨made,fF⟩=>sY made e hp fun e h=>Dj P T made ops.toList (ops.toList.zip fF) [] e h fun e h=>eB (aQ ft.ks e) fun e=>K .normal ⟨e,h,s⟩
    | none=>yF P ft Y id ops ⟨e,hp,s⟩ K):=h
   split at h
   ·rename_i made fF Wv
    have VR:=hD rfl ⟨made,fF⟩ Wv cx hY.laid r m L F e hp s a w _ hg (vI hc) h;refine wpIn_mono (VR id) fun ex a' w' hq=>?_;obtain⟨e',h',s',L',F',hex,⟨hk,rfl⟩,eL,tr,hs⟩:=hq;exact fin hex hk eL tr hs
   ·obtain⟨h⟩:=h
    exact h cx hY r m L F a w hg hc
end
@[ext] structure Fs where
 env:Nat->Option V
 heap:Nat->Option Obj
def fI(f:Fs):Wr->Fs
 | .set s v=>⟨fun x=>if x=s then some v else f.env x,f.heap⟩
 | .obj i o=>⟨f.env,fun x=>if x=i then some o else f.heap x⟩
 | .new i o=>⟨f.env,fun x=>if x=i then some o else f.heap x⟩
 | .newq i o=>⟨f.env,fun x=>if x=i then some o else f.heap x⟩
 | .del i=>⟨f.env,fun x=>if x=i then none else f.heap x⟩
def bT(f:Fs):List Wr->Fs
 | []=>f
 | w::r=>bT (fI f w) r
def cz{σ:Type}(st:St σ):Fs:=⟨get st.env,get st.heap⟩
def ma:List Wr->List Nat
 | []=>[]
 | .set s _::r=>s::ma r
 | _::r=>ma r
theorem eZ:∀ {l:List Nat} {n:Nat},tQ l n=true↔n∈l
 | [],n=>by simp[tQ]
 | k::r,n=>by
  simp only[tQ,List.mem_cons]
  cases h:Nat.beq k n with
  | true=>simp[Nat.eq_of_beq_eq_true h]
  | false=>
   have:n≠k:=by rintro rfl;simp at h
   simp[this,eZ (l:=r)]
theorem fV:∀ {l m:List Nat},iO l m=true -> ∀ x∈l,x∉m
 | [],m,_,x,hx=>by cases hx
 | k::r,m,h,x,hx=>by
  simp only[iO]at h;split at h
  ·cases h
  rename_i hk;rcases List.mem_cons.1 hx with rfl|hx
  ·intro hm;rw[eZ.2 hm]at hk;cases hk
  ·exact fV h x hx
theorem yo:∀ {l m:List Nat},Kf l m=true -> ∀ x∈l,x∈m
 | [],m,_,x,hx=>by cases hx
 | k::r,m,h,x,hx=>by
  simp only[Kf]at h;split at h;case h_2=>cases h
  rename_i hk;rcases List.mem_cons.1 hx with rfl|hx
  ·exact eZ.1 hk
  ·exact yo h x hx
theorem gN:∀ {ws:List Wr} (f:Fs) {x:Nat},x∉ma ws->(bT f ws).env x=f.env x
 | [],_,_,_=>rfl
 | w::r,f,x,h=>by
  rw[bT]
  cases w with
  | set s v=>
   simp only[ma,List.mem_cons,not_or]at h;rw[gN _ h.2];simp[fI,h.1]
  | _=>rw[gN (ws:=r) _ h];rfl
theorem fM:∀ {ws:List Wr} (f:Fs) {x:Nat},x∉cp ws->(bT f ws).heap x=f.heap x
 | [],_,_,_=>rfl
 | w::r,f,x,h=>by
  rw[bT]
  cases w with
  | set s v=>rw[fM (ws:=r) _ h];rfl
  | _=>
   simp only[cp,List.mem_cons,not_or]at h;rw[fM _ h.2];simp[fI,h.1]
theorem jy:∀ {ws:List Wr} {f g:Fs} {x:Nat},f.env x=g.env x->(bT f ws).env x=(bT g ws).env x
 | [],_,_,_,h=>h
 | w::r,f,g,x,h=>by
  rw[bT,bT];apply jy;cases w<;>simp[fI,h]
theorem iL:∀ {ws:List Wr} {f g:Fs} {x:Nat},f.heap x=g.heap x->(bT f ws).heap x=(bT g ws).heap x
 | [],_,_,_,h=>h
 | w::r,f,g,x,h=>by
  rw[bT,bT];apply iL;cases w<;>simp[fI,h]
theorem B4{u v:List Wr}(f:Fs)(h1:∀ x∈ma u,x∉ma v)(h2:∀ x∈cp u,x∉cp v):bT (bT f u) v=bT (bT f v) u:=by
 ext1
 ·funext x
  by_cases hx:x∈ma u
  ·rw[gN _ (h1 x hx)]
   exact(jy (gN f (h1 x hx))).symm
  ·rw[gN (ws:=u) _ hx]
   exact jy (gN f hx)
 ·funext x
  by_cases hx:x∈cp u
  ·rw[fM _ (h2 x hx)]
   exact(iL (fM f (h2 x hx))).symm
  ·rw[fM (ws:=u) _ hx]
   exact iL (fM f hx)
theorem AB{σ:Type}:∀ (ws:List Wr) (st:St σ),cz (aF st (pC ws))=bT (cz st) ws
 | [],st=>rfl
 | w::r,st=>by
  have key:∀ w':Wr,cz (bm st w')=fI (cz st) w->cz (aF st (w'::pC r))=bT (cz st) (w::r):=by
   intro w' h;rw[aF,AB r,bT,h]
  cases w with
  | set s v=>exact key _ (by simp only[cz,bm,fI];congr 1;funext x;rw[db])
  | obj i o=>exact key _ (by simp only[cz,bm,fI];congr 1;funext x;rw[db])
  | new i o=>exact key (.newq i o) (by simp only[cz,bm,fI];congr 1;funext x;rw[dQ])
  | newq i o=>exact key _ (by simp only[cz,bm,fI];congr 1;funext x;rw[dQ])
  | del i=>exact key _ (by simp only[cz,bm,fI];congr 1;funext x;rw[dP])
structure p7(f:Fs)(id:Nat):Prop where
 none:f.heap id=none
 env:∀ s v,f.env s=some v->¬ gm v id
 heap:∀ i o,f.heap i=some o->¬ kA o id
mutual
theorem uh(id:Nat):∀ (v:V),¬ gm v id->aE (aZ id) v=v
 | .d _,_=>rfl
 | .agg cs,h=>by simp only[aE];rw[iq id cs h]
 | .tup cs,h=>by simp only[aE];rw[iq id cs h]
 | .clo _ cs,h=>by simp only[aE];rw[iq id cs h]
 | .ifc _ cs,h=>by simp only[aE];rw[iq id cs h]
 | .ptr i off,h=>by
  have hi:Nat.beq i id=false:=by rw[Bool.eq_false_iff];intro e;exact h (Nat.eq_of_beq_eq_true e)
  simp only[aE,aZ,lE,hi]
 | .ep i sz j off,h=>by
  have hi:Nat.beq i id=false:=by rw[Bool.eq_false_iff];intro e;exact h (Nat.eq_of_beq_eq_true e)
  simp only[aE,aZ,lE,hi]
 | .sl i sz off len,h=>by
  have hi:Nat.beq i id=false:=by rw[Bool.eq_false_iff];intro e;exact h (Nat.eq_of_beq_eq_true e)
  simp only[aE,aZ,lE,hi]
 | .mp i,h=>by
  have hi:Nat.beq i id=false:=by rw[Bool.eq_false_iff];intro e;exact h (Nat.eq_of_beq_eq_true e)
  simp only[aE,aZ,lE,hi]
 | .it i,h=>by
  have hi:Nat.beq i id=false:=by rw[Bool.eq_false_iff];intro e;exact h (Nat.eq_of_beq_eq_true e)
  simp only[aE,aZ,lE,hi]
 | .yld,_=>rfl
 | .unk,_=>rfl
theorem iq(id:Nat):∀ (vs:List V),¬ bz vs id->cb (aZ id) vs=vs
 | [],_=>rfl
 | v::r,h=>by
  simp only[bz,not_or]at h;simp only[cb];rw[uh id v h.1,iq id r h.2]
end
theorem xL(id:Nat):∀ (es:List (List V)),¬ bz es.flatten id->cS (aZ id) es=es
 | [],_=>rfl
 | e::r,h=>by
  simp only[List.flatten_cons,oe,not_or]at h;simp only[cS];rw[iq id e h.1,xL id r h.2]
theorem A2(id:Nat)(o:Obj)(h:¬ kA o id):Obj.aE (aZ id) o=o:=by
 cases o with
 | box c=>cases c with
  | dd l=>rfl
  | vv l=>simp only[Obj.aE];rw[iq id l h]
 | arr sz es=>cases es with
  | dd l=>rfl
  | vv l=>simp only[Obj.aE];rw[xL id l h]
 | map b0=>rfl
 | iter s n=>rfl
 | buf t s=>rfl
 | tb t l=>simp only[Obj.aE];rw[iq id l h]
 | fz l=>simp only[Obj.aE];rw[iq id l h]
 | mit v n l u=>simp only[Obj.aE];rw[uh id v h]
mutual
theorem gS(i:Nat):∀ (v:V),gm v i->i∈bC v
 | .d _,h=>h.elim
 | .agg cs,h=>by simpa[bC]using dc i cs h
 | .tup cs,h=>by simpa[bC]using dc i cs h
 | .clo _ cs,h=>by simpa[bC]using dc i cs h
 | .ifc _ cs,h=>by simpa[bC]using dc i cs h
 | .ptr j off,h=>by have:j=i:=h;simp[bC,this]
 | .ep j sz k off,h=>by have:j=i:=h;simp[bC,this]
 | .sl j sz off len,h=>by have:j=i:=h;simp[bC,this]
 | .mp j,h=>by have:j=i:=h;simp[bC,this]
 | .it j,h=>by have:j=i:=h;simp[bC,this]
 | .yld,h=>h.elim
 | .unk,h=>h.elim
theorem dc(i:Nat):∀ (vs:List V),bz vs i->i∈bU vs
 | [],h=>h.elim
 | v::r,h=>by
  simp only[bU,List.mem_append];exact h.imp (gS i v) (dc i r)
end
theorem ed(i:Nat)(o:Obj)(h:kA o i):i∈eE o:=by
 cases o with
 | box c=>cases c with
  | dd l=>exact(ee l i h).elim
  | vv l=>exact dc i l h
 | arr sz es=>cases es with
  | dd l=>
   exfalso;have h:bz (cU l).flatten i:=h;rw[eb]at h;exact ee _ i h
  | vv l=>exact dc i l.flatten h
 | map b0=>exact h.elim
 | iter s n=>exact h.elim
 | buf t s=>exact h.elim
 | tb t l=>exact dc i l h
 | fz l=>exact dc i l h
 | mit v n l u=>exact gS i v h
theorem p7.fI{f:Fs}{id:Nat}{w:Wr}(h:p7 f id)(h1:id∉bQ [w])(h2:id∉cp [w]):p7 (fI f w) id:=by
 have put:∀ (i:Nat) (o:Obj),id∉eE o->id≠i->p7 ⟨f.env,fun x=>if x=i then some o else f.heap x⟩ id:=by
  intro i o ho hi;refine⟨by simp[hi,h.none],h.env,fun j o' hj=>?_⟩;simp only at hj;split at hj
  ·cases hj;exact fun hn=>ho (ed id _ hn)
  ·exact h.heap j o' hj
 cases w with
 | set s v=>
  refine⟨h.none,fun t u hu=>?_,h.heap⟩;simp only[PX.fI]at hu;split at hu
  ·cases hu;exact fun hn=>h1 (by simp[bQ,gS id _ hn])
  ·exact h.env t u hu
 | obj i o=>exact put i o (by simpa[bQ]using h1) (by simpa[cp]using h2)
 | new i o=>exact put i o (by simpa[bQ]using h1) (by simpa[cp]using h2)
 | newq i o=>exact put i o (by simpa[bQ]using h1) (by simpa[cp]using h2)
 | del i=>
  refine⟨?_,h.env,fun j o' hj=>?_⟩
  ·simp only[PX.fI];split
   ·rfl
   ·exact h.none
  ·simp only[PX.fI]at hj
   split at hj
   ·cases hj
   ·exact h.heap j o' hj
theorem BQ(w:Wr)(r:List Wr)(x:Nat):x∈bQ (w::r)↔x∈bQ [w]\/x∈bQ r:=by cases w<;>simp[bQ]
theorem Dg(w:Wr)(r:List Wr)(x:Nat):x∈cp (w::r)↔x∈cp [w]\/x∈cp r:=by cases w<;>simp[cp]
theorem p7.bT{id:Nat}:∀ {ws:List Wr} {f:Fs},p7 f id->id∉bQ ws->id∉cp ws->p7 (bT f ws) id
 | [],f,h,_,_=>h
 | w::r,f,h,h1,h2=>by
  rw[BQ,not_or]at h1;rw[Dg,not_or]at h2;exact p7.bT (ws:=r) (f:=PX.fI f w) (h.fI h1.1 h2.1) h1.2 h2.2
theorem tz{w:Wr}{r:List Wr}(h:dD (w::r)=true):dD r=true/\(∀ x∈bw r,x∉bQ [w])/\(∀ x∈bw r,x∈cp [w] -> ∃ i,w = .del i)/\(∀ i o,w ≠ .newq i o):=by
 have key:∀ {l:List Nat},(match iO (bw r) l with
   | true=>dD r
   | false=>false)=true->dD r=true /\ ∀ x∈bw r,x∉l:=by
  intro l h;split at h
  ·rename_i hd;exact⟨h,fV hd⟩
  ·cases h
 cases w with
 | set s v=>
  obtain⟨h1,h2⟩:=key h;exact⟨h1,fun x hx=>by simpa[bQ]using h2 x hx,fun x hx hm=>by simp[cp]at hm,fun i o e=>by cases e⟩
 | obj i o=>
  obtain⟨h1,h2⟩:=key h;exact⟨h1,fun x hx=>by have:=h2 x hx;simp at this;simpa[bQ]using this.2,fun x hx hm=>by have:=h2 x hx;simp[cp]at hm;simp[hm]at this,fun i o e=>by cases e⟩
 | new i o=>
  obtain⟨h1,h2⟩:=key h;exact⟨h1,fun x hx=>by have:=h2 x hx;simp at this;simpa[bQ]using this.2,fun x hx hm=>by have:=h2 x hx;simp[cp]at hm;simp[hm]at this,fun i o e=>by cases e⟩
 | newq i o=>cases h
 | del i=>exact⟨h,fun x hx=>by simp[bQ],fun x hx hm=>⟨i,rfl⟩,fun i o e=>by cases e⟩
theorem y5{σ:Type}:∀ (ws:List Wr) (st:St σ),dD ws=true->(∀ id∈bw ws,p7 (cz st) id)->cz (aF st ws)=bT (cz st) ws
 | [],st,_,_=>rfl
 | w::r,st,eg,hu=>by
  obtain⟨h1,h2,h3,h4⟩:=tz eg;have NK:∀ id∈bw r,p7 (cz st) id:=fun id dR=>hu id (by cases w<;>simp[bw,dR]);have key:cz (bm st w)=fI (cz st) w:=by
   cases w with
   | set s v=>simp only[cz,bm,fI];congr 1;funext x;rw[db]
   | obj i o=>simp only[cz,bm,fI];congr 1;funext x;rw[db]
   | new i o=>
    have hi:p7 (cz st) i:=hu i (by simp[bw]);simp only[cz,bm,fI]
    congr 1
    ·funext x
     rw[bs]
     cases hx:get st.env x with
     | none=>rfl
     | some v=>simp only[Option.map_some];rw[uh i v (hi.env x v hx)]
    ·funext x
     rw[dQ,bs,dP];split
     ·rfl
     ·cases hx:get st.heap x with
      | none=>rfl
      | some o'=>simp only[Option.map_some];rw[A2 i o' (hi.heap x o' hx)]
   | newq i o=>exact absurd rfl (h4 i o)
   | del i=>simp only[cz,bm,fI];congr 1;funext x;rw[dP]
  rw[aF,bT,<- key];refine y5 r _ h1 fun id dR=>?_;rw[key];by_cases hm:id∈cp [w]
  ·obtain⟨i,rfl⟩:=h3 id dR hm
   have hh:=NK id dR;refine⟨?_,hh.env,fun j o' hj=>?_⟩
   ·simp only[PX.fI];split
    ·rfl
    ·exact hh.none
   ·simp only[PX.fI]at hj
    split at hj
    ·cases hj
    ·exact hh.heap j o' hj
  ·exact(NK id dR).fI (h2 id dR) hm
structure Rec where
 idx:Nat
 e:Env
 h:aq
 os:List Nat
 ws:List Wr
 iX:List Nat
def Rec.oo(r:Rec):OO:=⟨r.os,cp r.ws,bw r.ws,bQ r.ws⟩
def Lo(r:Rec)(f:Fs):Prop:=(∀ s v,get r.e s=some v->f.env s=some v)/\(∀ s o,get r.h s=some o->f.heap s=some o)
def pk:List Rec->Fs->Fs->Prop
 | [],f,f'=>f'=f
 | r::l,f,f'=>Lo r f/\pk l (bT f r.ws) f'
structure yy(a b:Rec):Prop where
 env:∀ x∈ma a.ws,get b.e x=none
 heap:∀ x∈cp a.ws,get b.h x=none
 WW:∀ x∈ma a.ws,x∉ma b.ws
 E9:∀ x∈cp a.ws,x∉cp b.ws
 news:∀ x∈bw a.ws,x∉bQ b.ws
structure FZ(a b:Rec):Prop where
 l:yy a b
 r:yy b a
theorem yy.sub{a b:Rec}(h:yy a b)(f:Fs):Lo b (bT f a.ws)↔Lo b f:=by
 constructor
 ·rintro ⟨h1,h2⟩
  refine⟨fun s v hs=>?_,fun s o hs=>?_⟩
  ·rw[<- h1 s v hs];exact(gN f fun hm=>by rw[h.env s hm]at hs;cases hs).symm
  ·rw[<- h2 s o hs];exact(fM f fun hm=>by rw[h.heap s hm]at hs;cases hs).symm
 ·rintro ⟨h1,h2⟩
  refine⟨fun s v hs=>?_,fun s o hs=>?_⟩
  ·rw[gN f fun hm=>by rw[h.env s hm]at hs;cases hs];exact h1 s v hs
  ·rw[fM f fun hm=>by rw[h.heap s hm]at hs;cases hs];exact h2 s o hs
theorem pk.swap{a b:Rec}{l:List Rec}{f f':Fs}(hf:FZ a b)(h:pk (a::b::l) f f'):pk (b::a::l) f f':=by
 obtain⟨h1,h2,h3⟩:=h;refine⟨(hf.l.sub f).1 h2,(hf.r.sub f).2 h1,?_⟩;rw[B4 f hf.r.WW hf.r.E9];exact h3
theorem pk.front{b:Rec}{l2:List Rec}{f':Fs}:∀ {l1:List Rec} {f:Fs},(∀ a∈l1,FZ a b)->pk (l1++b::l2) f f'->pk (b::(l1++l2)) f f'
 | [],_,_,h=>h
 | a::l1,f,hf,h=>by
  obtain⟨h1,h2⟩:=h;have:=pk.front (l1:=l1) (fun i hi=>hf i (List.mem_cons_of_mem _ hi)) h2;exact pk.swap (hf a (List.mem_cons_self ..)) ⟨h1,this⟩
def qK(P:Program)(ops:Array Oper)(q:Rec):Prop:=
 ∀ {σ:Type} (cx:Cx σ),rY P cx -> ∀ (r:Option Nat) (m:List Nat) (L:Loc) (F:Nat->Nat) (st:St σ) (a:Act) (w:World),cN q.e st.env->cN q.h st.heap->Good cx r m L F st a w ->
  (∀ o,ops[q.idx]?=some o -> ∀ k,o.dst=some k->k<a.tmps.size) -> ∀ (next:Act->World->Prop) (Q:Exit->Act->World->Prop),
  (∀ a' L' F' w',a'.tmps.size=a.tmps.size->Good cx r m L' F' (aF st q.ws) a' w'->Tr F w F' w'->next a' w')->wpOpIn (fr r) 0 P ops Q q.idx next a w
structure Pr(a b:Rec):Prop where
 lt:a.idx<b.idx
 free:a.idx∈b.iX->FZ a b
 names:∀ x∈bw b.ws,x∉bQ a.ws
 E9:∀ x∈bw b.ws,x∉cp a.ws
theorem gK:∀ {ws:List Wr} {x:Nat},x∈bw ws->x∈cp ws
 | [],_,h=>h
 | w::r,x,h=>by
  cases w<;>simp only[bw,cp,List.mem_cons]at h ⊢
  ·exact gK h
  ·exact .inr (gK h)
  ·exact h.imp id gK
  ·exact .inr (gK h)
  ·exact .inr (gK h)
def sw:Nat->List Oper->Bool
 | _,[]=>true
 | i,o::r=>o.after.toList.all (fun e=>!Region.binds .any e||Nat.blt e.on i)&&sw (i+1) r
def Gd(fF:List OT)(o:Oper)(i:Nat):Bool:=
 o.after.toList.any fun e=>Region.binds .any e&&(Nat.beq e.on i||(Nat.blt i e.on&&(match fF[e.on]? with
  | some u=>!tQ u.iX i
  | none=>false)))
def o7(fF:List OT):Nat->List Oper->List OT->Bool
 | _,[],_=>true
 | j,o::r,t::tr=>(List.range j).all (fun i=>tQ t.iX i||Gd fF o i)&&o7 fF (j+1) r tr
 | _,_::_,[]=>false
def tZ(d:Option Nat)(ts:List Nat):Bool:=
 match d with
 | none=>true
 | some d=>!tQ ts d
def KB(d d':Option Nat):Bool:=
 match d,d' with
 | some d,some d'=>!Nat.beq d d'
 | _,_=>true
def vE(ops:List Oper)(fF:List OT)(o:Oper)(t:OT):List Nat->Bool
 | []=>true
 | i::r=>(match ops[i]?,fF[i]? with
  | some p,some u=>tZ p.dst t.ts&&tZ o.dst u.ts&&KB p.dst o.dst
  | _,_=>false)&&vE ops fF o t r
def rB(ops:List Oper)(fF:List OT):List Oper->List OT->Bool
 | [],_=>true
 | o::r,t::tr=>vE ops fF o t t.iX&&rB ops fF r tr
 | _::_,[]=>false
def kE(ops:List Oper)(rt:RT):Bool:=
 Nat.beq ops.length rt.fF.length&&sw 0 ops&&o7 rt.fF 0 ops rt.fF&&rB ops rt.fF ops rt.fF&&rt.made.all fun d=>Nat.blt d 500000
theorem gV:∀ {l:List Oper} {i:Nat},sw i l=true -> ∀ (j:Nat) (o:Oper),l[j]?=some o -> ∀ e∈o.after,Region.binds .any e=true->e.on<i+j
 | [],_,_,j,o,ho,_,_,_=>by simp at ho
 | x::l,i,h,j,o,ho,e,he,hb=>by
  simp only[sw,Bool.and_eq_true,List.all_eq_true]at h
  cases j with
  | zero=>
   simp only[List.getElem?_cons_zero,Option.some.injEq]at ho;subst ho;have:=h.1 e (by simpa using he);simp only[hb,Bool.not_true,Bool.false_or]at this;exact Nat.le_of_ble_eq_true this
  | succ j=>
   have:=gV h.2 j o (by simpa using ho) e he hb;omega
theorem mR{fF:List OT}:∀ {l:List Oper} {tr:List OT} {k:Nat},o7 fF k l tr=true -> ∀ (j:Nat) (o:Oper) (t:OT),l[j]?=some o->tr[j]?=some t -> ∀ i,i<k+j->i∈t.iX \/
  ∃ e∈o.after,Region.binds .any e=true/\(e.on=i\/i<e.on /\ ∃ u,fF[e.on]?=some u/\i∉u.iX)
 | [],_,_,_,j,o,t,ho,_,_,_=>by simp at ho
 | _::_,[],_,h,j,o,t,_,ht,_,_=>by simp at ht
 | x::l,y::tr,k,h,j,o,t,ho,ht,i,hi=>by
  simp only[o7,Bool.and_eq_true,List.all_eq_true]at h
  cases j with
  | zero=>
   simp only[List.getElem?_cons_zero,Option.some.injEq]at ho ht;subst ho;subst ht;have:=h.1 i (by simpa using hi);rw[Bool.or_eq_true]at this;rcases this with h1|h1
   ·exact .inl (eZ.1 h1)
   ·right
    simp only[Gd,List.any_eq_true,Bool.and_eq_true,Bool.or_eq_true]at h1;obtain⟨e,he,hb,Jr⟩:=h1;refine⟨e,by simpa using he,hb,?_⟩;rcases Jr with h2|⟨h2,h3⟩
    ·exact .inl (Nat.eq_of_beq_eq_true h2)
    ·right
     refine⟨Nat.le_of_ble_eq_true h2,?_⟩;split at h3
     ·rename_i u hu
      refine⟨u,hu,fun hm=>?_⟩;rw[eZ.2 hm]at h3;cases h3
     ·cases h3
  | succ j=>exact mR h.2 j o t (by simpa using ho) (by simpa using ht) i (by omega)
theorem tA{ops:List Oper}{fF:List OT}{o:Oper}{t:OT}:∀ {l:List Nat},vE ops fF o t l=true -> ∀ i∈l,∃ p u,ops[i]?=some p/\fF[i]?=some u/\(∀ d,p.dst=some d->d∉t.ts)/\(∀ d,o.dst=some d->d∉u.ts)/\(∀ d,p.dst=some d->o.dst≠some d)
 | [],_,i,hi=>by cases hi
 | k::r,h,i,hi=>by
  simp only[vE,Bool.and_eq_true]at h;rcases List.mem_cons.1 hi with rfl|hi
  ·have h1:=h.1
   split at h1;case h_2=>cases h1
   rename_i p u hp hu;simp only[Bool.and_eq_true]at h1;obtain⟨⟨h2,h3⟩,h4⟩:=h1;refine⟨p,u,hp,hu,fun d hd hm=>?_,fun d hd hm=>?_,fun d hd he=>?_⟩
   ·rw[hd]at h2;simp[tZ,eZ.2 hm]at h2
   ·rw[hd]at h3;simp[tZ,eZ.2 hm]at h3
   ·rw[hd,he]at h4;simp[KB]at h4
  ·exact tA h.2 i hi
theorem rC{ops:List Oper}{fF:List OT}:∀ {l:List Oper} {tr:List OT},rB ops fF l tr=true -> ∀ (j:Nat) (o:Oper) (t:OT),l[j]?=some o->tr[j]?=some t->vE ops fF o t t.iX=true
 | [],_,_,j,o,t,ho,_=>by simp at ho
 | _::_,[],h,j,o,t,_,ht=>by simp at ht
 | x::l,y::tr,h,j,o,t,ho,ht=>by
  simp only[rB,Bool.and_eq_true]at h
  cases j with
  | zero=>
   simp only[List.getElem?_cons_zero,Option.some.injEq]at ho ht;subst ho;subst ht;exact h.1
  | succ j=>exact rC h.2 j o t (by simpa using ho) (by simpa using ht)
theorem lB{a8:Array Bool}{i:Nat}(hi:i<a8.size)(h:a8.getD i true≠false):a8.getD i false=true:=by
 simp only[Array.getD_eq_getD_getElem?]at h ⊢;rw[Array.getElem?_eq_getElem hi]at h ⊢;simpa using h
theorem jS{a8:Array Bool}{i:Nat}(h:a8.getD i false=true):a8.getD i true=true:=by
 simp only[Array.getD_eq_getD_getElem?]at h ⊢
 cases hi:a8[i]? with
 | none=>rw[hi]at h;cases h
 | some b=>rw[hi]at h;simpa using h
structure Gb(ops:Array Oper)(l:List Rec)(a8:Array Bool):Prop where
 mem:∀ i,(∃ q∈l,q.idx=i)↔a8.getD i true=false
 size:a8.size=ops.size
 closed:∀ (j:Nat) (o:Oper),a8.getD j false=true->ops[j]?=some o -> ∀ e∈o.after,Region.binds .any e=true->a8.getD e.on false=true
structure Rs(P:Program)(ops:Array Oper)(fF:List OT)(l:List Rec):Prop where
 pw:l.Pairwise Pr
 snd:∀ q∈l,qK P ops q
 news:∀ q∈l,dD q.ws=true
 iX:∀ q∈l,∃ t,fF[q.idx]?=some t/\q.iX=t.iX
theorem Gb.ahead{ops:Array Oper}{l:List Rec}{a8:Array Bool}(h:Gb ops l a8){fF:List OT}(hb:sw 0 ops.toList=true)(hA:o7 fF 0 ops.toList fF=true)(hlen:ops.toList.length=fF.length) :
  ∀ (n j:Nat) (o:Oper) (t:OT),j<n->ops[j]?=some o->fF[j]?=some t->(∀ e∈o.after,Region.binds .any e=true->a8.getD e.on false=true) -> ∀ i,i<j->i∉t.iX->a8.getD i false=true
 | 0,_,_,_,hj,_,_,_,_,_,_=>by omega
 | n+1,j,o,t,hj,ho,ht,hl,i,hi,hn=>by
  rcases mR hA j o t (by simpa using ho) ht i (by omega) with h1|⟨e,he,GX,Jr⟩
  ·exact absurd h1 hn
  have dI:=gV hb j o (by simpa using ho) e he GX;rcases Jr with rfl|⟨EP,u,hu,ND⟩
  ·exact hl e he GX
  ·have NF:j<ops.size:=(Array.getElem?_eq_some_iff.1 ho).1
   have nC:ops[e.on]?=some ops[e.on]:=Array.getElem?_eq_getElem (by omega);exact Gb.ahead h hb hA hlen n e.on _ u (by omega) nC hu (h.closed e.on _ (hl e he GX) nC) i EP ND
section
variable {P : Program} {σ : Type} {cx : Cx σ} {r : Option Nat} {m : List Nat}
theorem FI(tN:rY P cx){ops:Array Oper}{rt:RT}(pz:kE ops.toList rt=true){Q:Exit->Act->World->Prop}{f':Fs}{s:σ}{n0:Nat}{F0:Nat->Nat}{w0:World}
  (hd:∀ o∈ops.toList,∀ d,o.dst=some d->d<n0)
  (hQ:∀ a w L F (st:St σ),cz st=f'->st.s=s->Good cx r m L F st a w->Tr F0 w0 F w->a.tmps.size=n0->Q .normal a w) :
  ∀ (fuel:Nat) {l:List Rec} {a8:Array Bool} {st:St σ} {a:Act} {w:World} {L:Loc} {F:Nat->Nat},
  Rs P ops rt.fF l->Good cx r m L F st a w->st.s=s->Tr F0 w0 F w->a.tmps.size=n0->(∀ q∈l,∀ id∈bw q.ws,p7 (cz st) id)->pk l (cz st) f'->l.length<=fuel->Gb ops l a8 ->
  wpAnyIn (fr r) 0 P .any ops Q fuel a8 a w:=by
 simp only[kE,Bool.and_eq_true]at pz;obtain⟨⟨⟨⟨hlen,lU⟩,nX⟩,mG⟩,td⟩:=pz;have hlen:=Nat.eq_of_beq_eq_true hlen;have MQ:∀ {l:List Rec} {a8:Array Bool},l.Pairwise Pr->Gb ops l a8->Region.ready .any ops a8 = []->l = []:=by
  intro l a8 hp ht hr
  cases l with
  | nil=>rfl
  | cons q l=>
   exfalso;have hi:=(ht.mem q.idx).1 ⟨q,List.mem_cons_self ..,rfl⟩;have Zd:q.idx<ops.size:=by
    rcases Nat.lt_or_ge q.idx a8.size with h|h
    ·rw[<- ht.size];exact h
    ·simp[Array.getD_eq_getD_getElem?,Array.getElem?_eq_none h]at hi
   have gF:q.idx∈Region.ready .any ops a8:=by
    rw[mem_ready];refine⟨hi,ops[q.idx],Array.getElem?_eq_getElem Zd,fun e he hb=>?_⟩;have dI:=gV lU q.idx ops[q.idx] (by simp) e he hb;refine lB (by rw[ht.size];omega) fun hf=>?_;obtain⟨q',DR,Mo⟩:=(ht.mem e.on).2 hf;rcases List.mem_cons.1 DR with h|h
    ·subst h;omega
    ·have:=((List.pairwise_cons.1 hp).1 _ h).lt
     omega
   rw[hr]at gF;cases gF
 intro fuel
 induction fuel with
 | zero=>
  intro l a8 st a w L F zl hg hs tr hn hu bt hle ht;have hl:l = []:=List.length_eq_zero_iff.1 (by omega);subst hl;have bt:f'=cz st:=bt;refine⟨?_,hQ a w L F st bt.symm hs hg tr hn⟩
  cases hr:Region.ready .any ops a8 with
  | nil=>rfl
  | cons i _=>
   have:i∈Region.ready .any ops a8:=by rw[hr];exact List.mem_cons_self ..
   obtain⟨q,hq,_⟩:=(ht.mem i).2 (mem_ready.1 this).1;cases hq
 | succ fuel ih=>
  intro l a8 st a w L F zl hg hs tr hn hu bt hle ht;refine⟨fun hr=>?_,fun j hj=>?_⟩
  ·have hl:=MQ zl.pw ht hr
   subst hl;have bt:f'=cz st:=bt;exact hQ a w L F st bt.symm hs hg tr hn
  ·obtain⟨FQ,oj,ET,mF⟩:=mem_ready.1 hj
   obtain⟨q,hq,rfl⟩:=(ht.mem j).2 FQ;obtain⟨l1,l2,rfl⟩:=List.append_of_mem hq;have wO:=List.pairwise_append.1 zl.pw;obtain⟨t,MO,NI⟩:=zl.iX q hq;have gQ:∀ p∈l1,FZ p q:=by
    intro p hp;have MN:=wO.2.2 p hp q (List.mem_cons_self ..);refine MN.free (Classical.byContradiction fun so=>?_);rw[NI]at so;have:=ht.ahead lU nX hlen (q.idx+1) q.idx oj t (by omega) ET MO mF p.idx MN.lt so;have h3:=jS this;rw[(ht.mem p.idx).1 ⟨p,List.mem_append_left _ hp,rfl⟩]at h3;cases h3
   obtain⟨n3,jm⟩:=pk.front gQ bt;have zY:=zl.news q hq;have AU:cz (aF st q.ws)=bT (cz st) q.ws:=y5 q.ws st zY (hu q hq);refine zl.snd q hq cx tN r m L F st a w n3.1 n3.2 hg (fun o ho k hk=>?_) _ _ fun a' L' F' w' cY eL nA=>?_
   ·rw[hn]
    exact hd o (by simpa using Array.mem_of_getElem? ho) k hk
   ·have gF:∀ p,p∈l1++l2->p∈l1++q::l2:=fun p hp=>by
     rcases List.mem_append.1 hp with h|h
     ·exact List.mem_append_left _ h
     ·exact List.mem_append_right _ (List.mem_cons_of_mem _ h)
    have ef:∀ p∈l1++l2,p.idx≠q.idx:=by
     intro p hp;rcases List.mem_append.1 hp with h|h
     ·have:=(wO.2.2 p h q (List.mem_cons_self ..)).lt;omega
     ·have:=((List.pairwise_cons.1 wO.2.1).1 p h).lt;omega
    refine ih (l:=l1++l2) ⟨?_,fun p hp=>zl.snd p (gF p hp),fun p hp=>zl.news p (gF p hp),fun p hp=>zl.iX p (gF p hp)⟩ eL ((cV _ _).trans hs) (Tr.trans tr nA) (cY.trans hn) ?_ (by rw[AU];exact jm) (by simp at hle ⊢;omega) ⟨fun i=>?_,?_,?_⟩
    ·exact List.pairwise_append.2 ⟨wO.1,(List.pairwise_cons.1 wO.2.1).2,fun x hx y hy=>wO.2.2 x hx y (List.mem_cons_of_mem _ hy)⟩
    ·intro p hp id dR
     rw[AU];refine(hu p (gF p hp) id dR).bT ?_ ?_
     ·rcases List.mem_append.1 hp with h|h
      ·exact(gQ p h).l.news id dR
      ·exact((List.pairwise_cons.1 wO.2.1).1 p h).names id dR
     ·rcases List.mem_append.1 hp with h|h
      ·exact(gQ p h).l.E9 id (gK dR)
      ·exact((List.pairwise_cons.1 wO.2.1).1 p h).E9 id dR
    ·by_cases px:q.idx=i
     ·subst px
      have dI:q.idx<a8.size:=by rw[ht.size];exact(Array.getElem?_eq_some_iff.1 ET).1
      constructor
      ·rintro ⟨p,hp,he⟩;exact absurd he (ef p hp)
      ·intro h;simp[dI]at h
     ·rw[getD_set_ne true px,<- ht.mem i]
      constructor
      ·rintro ⟨p,hp,he⟩;exact⟨p,gF p hp,he⟩
      ·rintro ⟨p,hp,he⟩
       refine⟨p,?_,he⟩;rcases List.mem_append.1 hp with h|h
       ·exact List.mem_append_left _ h
       ·rcases List.mem_cons.1 h with rfl|h
        ·exact absurd he px
        ·exact List.mem_append_right _ h
    ·rw[Array.size_setIfInBounds];exact ht.size
    ·intro k o' hk Cp e he hb
     by_cases AO:q.idx=k
     ·subst AO
      rw[ET]at Cp;cases Cp;exact getD_set_true (mF e he hb)
     ·rw[getD_set_ne false AO]at hk
      exact getD_set_true (ht.closed k o' hk Cp e he hb)
end
end Go.PX
