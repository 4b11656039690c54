import Derived.Test.YtpocldjdlookjaaPxE
import Derived.OrdersIn
import Derived.Scope
set_option linter.all false
namespace Go.PX
open Go.RowKit
theorem v5(v:V)(K:V->Prop):xg v K=K v:=by cases v<;>rfl
theorem Cw(v:Obj)(K:Obj->Prop):Ah v K=K v:=by
 match v with
 | .box (.dd l)=>exact tL l _
 | .box (.vv l)=>exact oX l _
 | .arr _ (.dd _)=>rfl
 | .arr _ (.vv _)=>rfl
 | .map _=>rfl
 | .iter _ _=>rfl
 | .buf _ _=>rfl
 | .tb _ l=>exact oX l _
 | .mit v n l u=>exact v5 v fun v=>K (.mit v n l u)
theorem eY:∀ (l:Env) (K:Env->Prop),dx l K=K l
 | [],K=>rfl
 | (k,v)::r,K=>by
  show xg v (fun v=>dx r fun r=>K ((k,v)::r))=_;rw[v5,eY r]
theorem fS:∀ (l:av) (K:av->Prop),fy l K=K l
 | [],K=>rfl
 | (k,v)::r,K=>by
  show Ah v (fun v=>fy r fun r=>K ((k,v)::r))=_;rw[Cw,fS r]
theorem lh:∀ (l:List Nat) (K:List Nat->Prop),cO l K=K l
 | [],K=>rfl
 | n::r,K=>by
  show cO r (fun r=>K (n::r))=_;rw[lh r]
theorem cT{σ:Type}:∀ (ws:List Wr) (st:St σ),(aK st ws).s=st.s
 | [],_=>rfl
 | w::r,st=>by
  rw[aK,cT r];cases w<;>rfl
theorem cj{σ:Type}(s:σ):∀ (ws:List Wr) (e:Env) (h:av) (K:Env->av->Prop),bk ws e h K=K (aK (⟨e,h,s⟩:St σ) ws).env (aK (⟨e,h,s⟩:St σ) ws).heap
 | [],e,h,K=>rfl
 | w::r,e,h,K=>by
  cases w with
  | set t v=>show dx (put e t v) (fun e'=>bk r e' h K)=_;rw[eY,cj s r];rfl
  | obj id o=>show fy (put h id o) (fun h'=>bk r e h' K)=_;rw[fS,cj s r];rfl
  | new id o=>
   show dx (cn (az (aQ id)) e) (fun e'=>fy ((id,o)::cn (Obj.az (aQ id)) (cut h id)) fun h'=>bk r e' h' K)=_;rw[eY,fS,cj s r];rfl
  | newq id o=>show fy ((id,o)::h) (fun h'=>bk r e h' K)=_;rw[fS,cj s r];rfl
  | del id=>show fy (cut h id) (fun h'=>bk r e h' K)=_;rw[fS,cj s r];rfl
section
variable {P : Program} {T : dM} {e : Env} {h : av} {dst : Option Nat} {K : List Wr -> Prop} {ty : TypeId} {pos : String} {after : Array Edge} {guard : Option (Nat × Bool)}
theorem xy(hT:bj P T){op:Op}(hk:fo T e h dst op K):∃ ws,K ws/\Out P e h ⟨dst,op,ty,pos,after,guard⟩ ws:=by
 cases op;case move=>exact Ff hk
 case assign=>exact AU hk
 case pick=>exact Fh hk
 case alloc=>exact Df hT hk
 case box=>exact G9 hk
 case build=>exact Dh hT hk
 case buildSlice=>exact uJ hT hk
 case load=>exact Fe hT hk
 case store=>exact Dn hT hk
 case nilCheck=>exact xC hk
 case binOp=>exact Dg hT hk
 case unOp=>exact Fi hk
 case convert=>exact za hT hk
 case makeFunc=>exact xA hk
 case fieldAddr=>exact vw hT hk
 case field=>exact Dj hT hk
 case indexAddr=>exact vx hT hk
 case index=>exact Dk hT hk
 case slice=>exact Dm hT hk
 case extract=>exact zb hk
 case range=>exact Dl hT hk
 case makeInterface=>exact qG hT hk
 case entry=>exact Di hk
 case typeAssert=>exact uM hT hk
 case next=>exact Fg hk
 case makeMap=>exact zc hk
 case makeSlice=>exact vy hT hk
 case lookup=>exact AW hT hk
 case mapUpdate=>exact vz hT hk
 case insert=>exact AV hT hk
 case mapEntry=>exact xB hT hk
 case entryStore=>exact uK hT hk
 all_goals exact(show False from hk).elim
theorem pO(hT:bj P T){b:Builtin}{args:Array Operand}{tys:Array TypeId}(hk:dW T e h dst b args tys K):∃ ws,K ws/\Out P e h ⟨dst,.call ⟨.builtin b,args,tys⟩,ty,pos,after,guard⟩ ws:=by
 cases b;case len=>exact Hb hT hk
 case min=>exact He hk
 case max=>exact Hc hk
 case append=>exact AT hT hk
 case copy=>exact Fc hT hk
 all_goals exact(show False from hk).elim
end
section
variable {P : Program} {T : dM} {σ : Type} {Y : Hd σ} {cx : Cx σ} {r : Option Nat} {m : List Nat} {L : Loc} {F : Nat -> Nat} {a : Act} {w : World}
theorem Eh{ops:Array Oper}{e:Env}{h:av}{s:σ}{guard:Option (Nat×Bool)}{X Z:List Wr->Prop}(hk:kM ops.toList e guard X Z){dst:Option Nat}{op:Op}{ty:TypeId}{pos:String}{after:Array Edge}
  {st:St σ} (he:cM e st.env) (hg:Good cx r m L F st a w) :
  ∃ ws,((Region.wanted ⟨dst,op,ty,pos,after,guard⟩ (yielded ops a.tmps)=true/\X ws)\/(Region.wanted ⟨dst,op,ty,pos,after,guard⟩ (yielded ops a.tmps)=false/\Z ws)) /\
   (ws = [] \/ ∃ d v,ws = [.set d v]/\get e d=some v):=by
 unfold kM at hk;unfold Region.wanted;split at hk
 ·exact⟨[],.inl ⟨rfl,hk⟩,.inl rfl⟩
 ·rename_i j JC
  split at hk;case h_2=>exact hk.elim
  rename_i d _ _ _ _ _ hj;have yA:(ops[j]?).bind (·.dst)=some d:=by
   rw[Array.getElem?_toList]at hj;rw[hj];rfl
  split at hk
  ·rename_i b hb
   obtain⟨x,hx,hr⟩:=hg.env d _ (he _ _ hb);have hr:x = .bool b:=hr;subst hr;have hy:yielded ops a.tmps j=some b:=by
    unfold yielded;rw[yA];simp[hx]
   split at hk
   ·rcases tu hk with⟨rfl,hk⟩|⟨rfl,hk⟩
    ·exact⟨_,.inl ⟨by simp[hy],hk⟩,.inr ⟨d,_,rfl,hb⟩⟩
    ·exact⟨_,.inr ⟨by simp[hy],hk⟩,.inr ⟨d,_,rfl,hb⟩⟩
   ·rcases tu hk with⟨rfl,hk⟩|⟨rfl,hk⟩
    ·exact⟨_,.inr ⟨by simp[hy],hk⟩,.inr ⟨d,_,rfl,hb⟩⟩
    ·exact⟨_,.inl ⟨by simp[hy],hk⟩,.inr ⟨d,_,rfl,hb⟩⟩
  ·rename_i hb
   obtain⟨x,hx,l,rfl,hl⟩:=hg.env d _ (he _ _ hb);have hy:yielded ops a.tmps j=none:=by
    unfold yielded;rw[yA];simp[hx]
   exact⟨[],.inr ⟨by simp[hy],hk⟩,.inl rfl⟩
  ·exact hk.elim
theorem Good.Mf{e:Env}{h:av}{s:σ}(hg:Good cx r m L F ⟨e,h,s⟩ a w){ws:List Wr}(hw:ws = [] \/ ∃ d v,ws = [.set d v]/\get e d=some v) :
  Good cx r m L F (aK (⟨e,h,s⟩:St σ) ws) a w/\(aK (⟨e,h,s⟩:St σ) ws).heap=h:=by
 rcases hw with rfl|⟨d,v,rfl,hv⟩
 ·exact⟨hg,rfl⟩
 ·refine⟨hg.sub (e:=put e d v) (h:=h) (fun t u hu=>?_) (fun _ _ h=>h),rfl⟩
  rw[cH]at hu;split at hu
  ·rename_i e1;subst e1;cases hu;exact hv
  ·exact hu
theorem eg{d:Option Nat}(x:Value):(a.put d x).tmps.size=a.tmps.size:=by
 cases d<;>simp[Act.put]
theorem ib{n:Nat}{f:FuncId}{vs:Array Value}{R:Ending->World->Prop}(h:CallsIn Fence.wide n P f vs w R):CallsIn (fr r) n P f vs w R:=h
theorem A3{n:Nat}{l:Nat}{f:FuncId}{tmps:Array Value}{xR body:Code}{R:Ending->World->Prop}(h:RoundIn Fence.wide n P l f tmps xR body w R):RoundIn (fr r) n P l f tmps xR body w R:=h
def Bl(cx:Cx σ)(r:Option Nat)(m:List Nat)(F:Nat->Nat)(w:World)(n:Nat)(K:Env->av->σ->Prop):Exit->Act->World->Prop:=fun ex a' w'=>
 ∃ e' h' s' L' F',ex = .normal/\K e' h' s'/\Good cx r m L' F' ⟨e',h',s'⟩ a' w'/\Tr F w F' w'/\a'.tmps.size=n
def la(Y:Hd σ)(cx:Cx σ)(r:Option Nat)(m:List Nat)(F:Nat->Nat)(w:World)(n:Nat)(K:Env->av->σ->Prop):Exit->Act->World->Prop:=fun ex a' w'=>
 Bl cx r m F w n K ex a' w'\/oP Y cx r F w n ex a' w'
theorem ze{e:Env}{h:av}{o:Oper}{ws:List Wr}(ho:Out P e h o ws){st:St σ}(he:cM e st.env)(hh:cM h st.heap)(hg:Good cx r m L F st a w)(hd:∀ k,o.dst=some k->k<a.tmps.size)
  (qT:∀ c,o.op ≠ .defer c) {next:Act->World->Prop} {Q:Exit->Act->World->Prop} (hn:∀ x L' F' w',Good cx r m L' F' (aK st ws) (a.put o.dst x) w'->Tr F w F' w'->next (a.put o.dst x) w') :
  o.wpIn (fr r) 0 P a w next Q:=by
 obtain⟨x,w',nx,bA,hx,L',F',dY,tr⟩:=ho cx r m L F st a w he hh hg hd;refine⟨fun _ _=>trivial,?_⟩;rw[Oper.semAt_eq _ _ _ qT,bA];rcases hx with rfl|⟨rfl,rfl⟩
 ·exact hn x L' F' w' dY tr
 ·exact hn undef L' F' w' dY tr
theorem Fy{dst:Option Nat}{op:Op}{e:Env}{h:av}{s:σ}{go:Env->av->σ->Prop}(hc:∀ c,op ≠ .call c)(hb:∀ b t x y ty,op ≠ .binOp b t x y ty)(hn:∀ x,op ≠ .next x false)(hp:∀ x,op ≠ .panic x) :
  zx P T Y dst op e h s go=fo T e h dst op (fun ws=>bk ws e h fun e h=>go e h s):=by
 cases op;case next x b=>
  cases b
  ·exact absurd rfl (hn _)
  ·rfl
 all_goals first|rfl|exact absurd rfl (hc _)|exact absurd rfl (hb _ _ _ _ _)|exact absurd rfl (hp _)
theorem E6(hT:bj P T){e:Env}{op:BinOp}{t:TypeId}{x y:Operand}{neg:Bool}{ne:Prop}(hk:xw T e op t x y=some (neg,ne)){st:St σ}(he:cM e st.env)(hg:Good cx r m L F st a w){dst:Option Nat}{ty ty':TypeId}{pos:String}{after:Array Edge}{guard:Option (Nat×Bool)} :
  ∃ b:Bool,(ne->b=false)/\(execOp a.eval ⟨dst,.binOp op t x y ty',ty,pos,after,guard⟩).run P w = .ok (.value (.bool (wN neg b))) w:=by
 have zQ:∀ {x:Value},isSlice T t=true -> ∃ el,P.underlying t=some (.slice el):=by
  intro _ h;unfold isSlice at h;split at h
  ·rename_i ti ht
   split at h
   ·rename_i el dt
    obtain⟨de,fV,dC⟩:=eb hT ht;rw[dt]at dC;exact⟨el,by rw[fV,et dC.symm]⟩
   ·cases h
  ·cases h
 have bA:∀ (u:Option Addr) (l c:Nat) (el:TypeId),P.underlying t=some (.slice el)->a.eval x = .slice u l c->y = .const (.slice none 0 0) ->
   ((op = .eql->(execOp a.eval ⟨dst,.binOp op t x y ty',ty,pos,after,guard⟩).run P w = .ok (.value (.bool u.isNone)) w)/\(op = .neq->(execOp a.eval ⟨dst,.binOp op t x y ty',ty,pos,after,guard⟩).run P w = .ok (.value (.bool (!u.isNone))) w)):=by
  intro u l c el hu hx hy;subst hy;have Su:a.eval (.const (.slice none 0 0)) = .slice none 0 0:=rfl;have hq:(Op.equal t (.slice u l c) (.slice none 0 0)).run P w = .ok u.isNone w:=by
   rw[Op.equal,show Op.maxDepth=9999+1 from rfl,Op.equalIn];cases u<;>simp[run_underlying hu]
  refine⟨fun ho=>?_,fun ho=>?_⟩<;>subst ho<;>simp[execOp,hx,Su,eqGuard,binOp,hq]
 have H7:∀ {es:List (List D)},aM e x=some (.d (.vs es)) -> ∃ u l c,a.eval x = .slice u l c/\(es ≠ []->u.isNone=false):=by
  intro es hx;obtain⟨u,l,c,h1,h2,h3,h4⟩:=hg.aM (aG he hx);refine⟨u,l,c,h1,fun eA=>?_⟩;obtain⟨b,off,sz,h5,_⟩:=h4 eA;rw[h5];rfl
 have LQ:∀ {id sz off n:Nat},aM e x=some (.sl id sz off n) -> ∃ u l c,a.eval x = .slice u l c/\(0<n->u.isNone=false):=by
  intro id sz off n hx;obtain⟨u,c,h1,h2,h3,h4⟩:=hg.aM (aG he hx);refine⟨u,n,c,h1,fun hn=>?_⟩;rcases h4 with⟨h4,_⟩|⟨h4,_⟩
  ·omega
  ·rw[h4];rfl
 unfold xw at hk;split at hk
 ·rename_i hs hx
  cases hk;obtain⟨el,hu⟩:=zQ (x:=undef) hs;obtain⟨u,l,c,h1,h2⟩:=H7 hx;exact⟨u.isNone,h2,(bA u l c el hu h1 rfl).1 rfl⟩
 ·rename_i hs hx
  cases hk;obtain⟨el,hu⟩:=zQ (x:=undef) hs;obtain⟨u,l,c,h1,h2⟩:=H7 hx;exact⟨u.isNone,h2,(bA u l c el hu h1 rfl).2 rfl⟩
 ·rename_i hs hx
  cases hk;obtain⟨el,hu⟩:=zQ (x:=undef) hs;obtain⟨u,l,c,h1,h2⟩:=LQ hx;exact⟨u.isNone,h2,(bA u l c el hu h1 rfl).1 rfl⟩
 ·rename_i hs hx
  cases hk;obtain⟨el,hu⟩:=zQ (x:=undef) hs;obtain⟨u,l,c,h1,h2⟩:=LQ hx;exact⟨u.isNone,h2,(bA u l c el hu h1 rfl).2 rfl⟩
 ·rename_i hs hx
  cases hk;obtain⟨el,hu⟩:=zQ (x:=undef) hs;have h1:a.eval x = .slice none 0 0:=hg.aM (aG he hx);exact⟨false,fun _=>rfl,(bA none 0 0 el hu h1 rfl).1 rfl⟩
 ·rename_i hs hx
  cases hk;obtain⟨el,hu⟩:=zQ (x:=undef) hs;have h1:a.eval x = .slice none 0 0:=hg.aM (aG he hx);exact⟨false,fun _=>rfl,(bA none 0 0 el hu h1 rfl).2 rfl⟩
 ·cases hk
theorem B1{t:TypeId}{n:String}{g:FuncId}(hm:∀ v w,(method (P.types.size+Made.depth) t v n).run P w = .ok (g,v) w)(oa:∀ (vs:Array Value) (w:World),(callFunc g vs).run P w = .ok (.enter g vs) w){a:Act}{f:Operand}{y:Value}(cP:a.eval f = .iface t y){w:World}
  {dst:Option Nat} {args:Array Operand} {tys:Array TypeId} {ty:TypeId} {pos:String} {after:Array Edge} {guard:Option (Nat×Bool)} :
  (execOp a.eval ⟨dst,.call ⟨.invoke f n,args,tys⟩,ty,pos,after,guard⟩).run P w = .ok (.enter g (#[y]++args.map a.eval)) w:=by
 have hx:(#[a.eval f]++args.map a.eval).extract 1 (#[a.eval f]++args.map a.eval).size=args.map a.eval:=by
  apply Array.ext';simp only[Array.toList_extract,Array.toList_append,Array.toList_map,Array.size_append,Array.size_map];simp[List.extract];rw[List.take_of_length_le (by simp)]
 have h0:(#[a.eval f]++args.map a.eval)[0]?=some (.iface t y):=by
  rw[<- cP,Array.getElem?_append_left (by simp)];rfl
 simp only[execOp,resolve,Sem.run_bind,Sem.run_pure,Result.andThen_ok,invoke,h0,hx,callMethod];simp[program,Sem.run,Sem.run_bind,hm,oa]
theorem yP{e:Env}{h:av}{s:σ}{cx:Cx σ}{r:Option Nat}{m:List Nat}{L:Loc}{F:Nat->Nat}{a:Act}{w:World}(hg:Good cx r m L F ⟨e,h,s⟩ a w){args:Array Operand}{l':List V}(hl:cQ e args.toList=some l'){v:D}{y:Value}(hv:bC F w v y) :
  aq cx.yv L F w (.d v::l') (#[y]++args.map a.eval).toList:=by
 refine⟨y,args.toList.map a.eval,by simp,hv,hg.cQ hl⟩
theorem zl{w:World}{rv:Nat}{m:Nat}{n:Nat}{seen:Array Nat}{en:Array MapEntry}{c:Nat}{ty:TypeId}(hr:w.heap[rv]?=some (.mapIter (some m) n seen n))(hm:w.heap[m]?=some (.map en c))(hb:pG en c)(hn:en.size=n) :
  ((∀ i,i<n->seen.contains i=true)/\(∃ d,(Instr.next (.pointer (some ⟨rv,0,none⟩)) false ty).run P w = .ok (.tuple #[.bool false]) { w with drawn:=d })) \/
  (∃ (i:Nat) (e:MapEntry) (d:Nat),i<n/\seen.contains i=false/\en[i]?=some e/\(Instr.next (.pointer (some ⟨rv,0,none⟩)) false ty).run P w = .ok (.tuple #[.bool true,e.key,e.val]) { w with drawn:=d,heap:=w.heap.setIfInBounds rv (.mapIter (some m) n (seen.push i) n) }):=by
 have Nc:c=n:=by rw[hb.1,hn]
 subst Nc;have yx:∀ (i:Nat) (e:MapEntry),en[i]?=some e->e.born=i:=hb.2;have gS:(!seen.isEmpty && !en.isEmpty&&en.all (·.born≥c))=false:=by
  by_cases he:en.size=0
  ·have:en = #[]:=Array.eq_empty_of_size_eq_zero he
   subst this;simp
  ·have h0:en[0]?=some en[0]:=Array.getElem?_eq_getElem (by omega)
   have nf:=yx 0 _ h0;have:en.all (·.born≥c)=false:=by
    rw[Array.all_eq_false];exact⟨0,by omega,by rw[nf];simp;omega⟩
   simp[this]
 have oc:((en.filter fun e=>!seen.contains e.born).filter (·.born≥c)) = #[]:=by
  rw[Array.filter_eq_empty_iff];intro e he;obtain⟨he,_⟩:=Array.mem_filter.1 he;obtain⟨i,hi,rfl⟩:=Array.mem_iff_getElem.1 he;have:=yx i _ (Array.getElem?_eq_getElem hi);simp[this];omega
 have hold:((en.filter fun e=>!seen.contains e.born).filter (·.born<c))=en.filter fun e=>!seen.contains e.born:=by
  rw[Array.filter_eq_self];intro e he;obtain⟨he,_⟩:=Array.mem_filter.1 he;obtain⟨i,hi,rfl⟩:=Array.mem_iff_getElem.1 he;have:=yx i _ (Array.getElem?_eq_getElem hi);simp[this];omega
 generalize ky:(en.filter fun e=>!seen.contains e.born)=left at oc hold;by_cases hz:left = #[]
 ·left
  refine⟨fun i hi=>?_,w.drawn,?_⟩
  ·have he:en[i]?=some en[i]:=Array.getElem?_eq_getElem (by omega)
   have kj:=yx i _ he
   cases hs:seen.contains i with
   | true=>rfl
   | false=>
    exfalso;have:en[i]∈en.filter fun e=>!seen.contains e.born:=Array.mem_filter.2 ⟨Array.getElem_mem _,by rw[kj,hs];rfl⟩;rw[ky,hz]at this;simp at this
  ·simp only[Instr.next,getObj,Sem.run_bind,Sem.run,hr,Result.andThen,hm]
   simp only[gS,ky,hold,oc];subst hz;simp[choose,Sem.run,Sem.run_bind,Question.forced]
 ·right
  have yE:0<left.size:=Nat.pos_of_ne_zero fun h=>hz (Array.eq_empty_of_size_eq_zero h);have CK:left.isEmpty=false:=by
   rw[Array.isEmpty_eq_false_iff];exact hz
  have pick:∀ (j d:Nat),j<left.size -> ∃ (i:Nat) (e:MapEntry),i<c/\seen.contains i=false/\en[i]?=some e/\left[j]?=some e/\e.born=i:=by
   intro j d hj;have e6:left[j]∈(en.filter fun e=>!seen.contains e.born):=by rw[ky];exact Array.getElem_mem _
   obtain⟨e6,hs⟩:=Array.mem_filter.1 e6;obtain⟨i,hi,he⟩:=Array.mem_iff_getElem.1 e6;have kj:=yx i _ (Array.getElem?_eq_getElem hi);refine⟨i,en[i],by omega,?_,Array.getElem?_eq_getElem hi,?_,kj⟩
   ·rw[<- he,kj]at hs
    simpa using hs
   ·rw[he];exact Array.getElem?_eq_getElem hj
  have fin:∀ (j d:Nat),j<left.size->((Instr.next (.pointer (some ⟨rv,0,none⟩)) false ty).run P w=(match ((#[]:Array (Option MapEntry))++(left ++ #[]).map some)[j]? with
    | some (some e)=>(do setObj rv (.mapIter (some m) c (seen.push e.born) c);pure (.tuple #[.bool true,e.key,e.val]):Sem Value)
    | some none=>pure (.tuple #[.bool false])
    | none => stuck "Next: no such candidate").run P { w with drawn := d }) -> ∃ (i : Nat) (e : MapEntry) (d : Nat), i < c /\ seen.contains i = false /\ en[i]? = some e /\ (Instr.next (.pointer (some ⟨rv, 0, none⟩)) false ty).run P w = .ok (.tuple #[.bool true, e.key, e.val]) { w with drawn := d, heap := w.heap.setIfInBounds rv (.mapIter (some m) c (seen.push i) c) } := by
   intro j d hj bA;obtain⟨i,e,h1,h2,h3,h4,h5⟩:=pick j d hj;refine⟨i,e,d,h1,h2,h3,?_⟩;rw[bA];have:((#[]:Array (Option MapEntry))++(left ++ #[]).map some)[j]?=some (some e):=by simp[h4]
   simp only[this,h5];simp[setObj,Sem.run,Sem.run_bind,hr]
  by_cases hf:(Question.mapNext left.size).forced=true
  ·refine fin 0 w.drawn yE ?_
   simp only[Instr.next,getObj,Sem.run_bind,Sem.run,hr,Result.andThen,hm];simp only[gS,ky,hold,oc,CK];simp[choose,Sem.run,Sem.run_bind,hf];rfl
  ·refine fin (w.tape w.drawn (.mapNext left.size)%left.size) (w.drawn+1) (Nat.mod_lt _ yE) ?_
   simp only[Instr.next,getObj,Sem.run_bind,Sem.run,hr,Result.andThen,hm];simp only[gS,ky,hold,oc,CK];simp[choose,Sem.run,Sem.run_bind,hf,Question.cut];rfl
theorem AR{dst:Option Nat}{x:Operand}{ty:TypeId}{pos:String}{after:Array Edge}{guard:Option (Nat×Bool)}{e:Env}{h:av}{s:σ}{go:Env->av->σ->Prop}{L:Loc}{F:Nat->Nat}{a:Act}{w:World}
  (hg:Good cx r m L F ⟨e,h,s⟩ a w) (xj:∀ d,dst=some d->d<a.tmps.size) (hk:E4 dst x e h s go)
  {next:Act->World->Prop} {Q:Exit->Act->World->Prop} (dn:∀ e' h' s' L' F' a' w',Good cx r m L' F' ⟨e',h',s'⟩ a' w'->a'.tmps.size=a.tmps.size->Tr F w F' w'->go e' h' s'->next a' w') :
  Oper.wpIn (fr r) 0 P ⟨dst,.next x false,ty,pos,after,guard⟩ a w next Q:=by
 unfold E4 at hk;split at hk;case h_2=>exact hk.elim
 rename_i id hx;split at hk;case h_2=>exact hk.elim
 rename_i v n todo cur dZ;split at hk;case h_2=>exact hk.elim
 rename_i cc xl;obtain⟨hn,h0,h1⟩:=hk;have cP:a.eval x = .pointer (some ⟨L.ρ id,0,none⟩):=hg.aM hx;obtain⟨rb,seen,hv,hb,EP,_⟩:=hg.heap.obj id _ dZ;obtain⟨en,c,hm,hr,o6⟩:=EY hg (fun _ _ h=>h) xl hv;have cU:en.size=n:=by rw[<- hn];simpa using bH.get hr
 refine⟨fun _ _=>trivial,?_⟩;rw[Oper.semAt_eq _ _ _ (fun c e=>by cases e)];rcases zl (P:=P) (ty:=ty) hb hm o6 cU with⟨gS,d,bA⟩|⟨i,yi,d,hi,hs,IS,bA⟩
 ·have H4:todo = []:=by
   rw[List.eq_nil_iff_forall_not_mem];intro i hi;obtain⟨h2,h3⟩:=(EP i).1 hi;rw[gS i h2]at h3;cases h3
  have hk:=h0 H4;have yG:(execOp a.eval ⟨dst,.next x false,ty,pos,after,guard⟩).run P w = .ok (.value (.tuple #[.bool false])) { w with drawn:=d }:=by simp[execOp,cP,bA]
  rw[yG];have db:=hg.same (w':={ w with drawn:=d }) rfl rfl rfl rfl;have iX:=db.a9 (d:=dst) (v:=.d (.tup [.bool false])) (x:=.tuple #[.bool false]) xj ⟨_,rfl,_,_,rfl,rfl,rfl⟩;simp only at hk;rw[cj s]at hk;have ss:(aK (⟨e,h,s⟩:St σ) (a9 dst (.d (.tup [.bool false])))).s=s:=cT _ _;generalize (aK (⟨e,h,s⟩:St σ) (a9 dst (.d (.tup [.bool false]))))=rA at hk iX ss;obtain⟨e2,h2,s2⟩:=rA;simp only at hk ss;subst ss;exact dn _ _ _ _ _ _ _ iX (eg _) (Tr.drew d) hk
 ·have fL:i∈todo:=(EP i).2 ⟨hi,hs⟩
  obtain⟨k,u,Nj,oB,P8⟩:∃ k u,cc[i]?=some (k,u)/\bC F w k yi.key/\bC F w u yi.val:=bH.at hr (by simpa using IS);have hk:=h1 i (k,u) fL Nj;simp only at hk;have yG:(execOp a.eval ⟨dst,.next x false,ty,pos,after,guard⟩).run P w = .ok (.value (.tuple #[.bool true,yi.key,yi.val])) { w with drawn:=d,heap:=w.heap.setIfInBounds (L.ρ id) (.mapIter (some rb) n (seen.push i) n) }:=by simp[execOp,cP,bA]
  rw[yG];have db:=hg.same (w':={ w with drawn:=d }) rfl rfl rfl rfl;have eC:=(Array.getElem?_eq_some_iff.1 hb).1;have FA:Tr F w F { w with drawn:=d }:=Tr.drew d;have vh:Tr F w F { w with drawn:=d,heap:=w.heap.setIfInBounds (L.ρ id) (.mapIter (some rb) n (seen.push i) n) }:=by
   refine .gV rfl rfl rfl (by simp) (fun _=>Nat.le_refl _) hg.heap.fresh fun b _ hF=>?_;have:L.ρ id≠b:=by rintro rfl;have:=(hg.heap.own id _ dZ trivial).1;omega
   simp[Array.getElem?_setIfInBounds_ne this]
  obtain⟨g1,g2⟩:=db.obj (o:=.mit v n (todo.filter fun j=>!Nat.beq j i) (some i)) (id:=id) dZ trivial (w':={ w with drawn:=d,heap:=w.heap.setIfInBounds (L.ρ id) (.mapIter (some rb) n (seen.push i) n) }) rfl rfl rfl (by simp) (fun y hy=>by simp[Array.getElem?_setIfInBounds_ne (Ne.symm hy)])
   (by intro ds;show w.heap[L.ρ id]?≠_;rw[hb];intro e;cases e) (by intro lp;show w.heap[L.ρ id]?≠_;rw[hb];intro e;cases e)
   ⟨rb,seen.push i,a6.mono vh v _ (fun _ _=>⟨rfl,rfl⟩) hv,by simp[Array.getElem?_setIfInBounds,eC],fun j=>by
    have Pq:Nat.beq j i=false↔j≠i:=by
     rw[Bool.eq_false_iff];exact⟨fun h e=>h (by subst e;simp),fun h e=>h (Nat.eq_of_beq_eq_true e)⟩
    simp only[List.mem_filter,EP,Bool.not_eq_true',Pq,Array.contains_push,Bool.or_eq_false_iff,beq_eq_false_iff_ne];constructor
    ·rintro ⟨⟨p1,p2⟩,p3⟩;exact⟨p1,p2,fun e=>p3 e⟩
    ·rintro ⟨p1,p2,p3⟩;exact⟨⟨p1,p2⟩,fun e=>p3 e⟩,fun j ej=>by cases ej;simp⟩
  have iX:=g1.a9 (d:=dst) (v:=.d (.tup [.bool true,k,u])) (x:=.tuple #[.bool true,yi.key,yi.val]) xj ⟨_,rfl,_,_,rfl,rfl,_,_,rfl,bC.mono vh _ _ oB,_,_,rfl,bC.mono vh _ _ P8,rfl⟩;rw[cj s]at hk;have ss:(aK (⟨e,h,s⟩:St σ) (.obj id (.mit v n (todo.filter fun j=>!Nat.beq j i) (some i))::a9 dst (.d (.tup [.bool true,k,u])))).s=s:=cT _ _;have key:∀ (rA:St σ),Good cx r m L F rA (a.put dst (.tuple #[.bool true,yi.key,yi.val])) { w with drawn:=d,heap:=w.heap.setIfInBounds (L.ρ id) (.mapIter (some rb) n (seen.push i) n) }->rA.s=s->go rA.env rA.heap s->next (a.put dst (.tuple #[.bool true,yi.key,yi.val])) { w with drawn:=d,heap:=w.heap.setIfInBounds (L.ρ id) (.mapIter (some rb) n (seen.push i) n) }:=by
   rintro ⟨e2,h2,s2⟩ q1 q2 q3;simp only at q2 q3;subst q2;exact dn _ _ _ _ _ _ _ q1 (eg _) vh q3
  exact key _ iX ss hk
theorem ve(hT:bj P T)(hY:cX P Y cx){ops:Array Oper}{i:Nat}{dst:Option Nat}{op:Op}{ty:TypeId}{pos:String}{after:Array Edge}{guard:Option (Nat×Bool)}(h0:ops[i]?=some ⟨dst,op,ty,pos,after,guard⟩){e:Env}{h:av}{s:σ}{go:Env->av->σ->Prop}{L:Loc}{F:Nat->Nat}{a:Act}{w:World}
  (hg:Good cx r m L F ⟨e,h,s⟩ a w) (xj:∀ d,dst=some d->d<a.tmps.size)
  (hk:kM ops.toList e guard (fun w=>bk w e h fun e h=>zx P T Y dst op e h s go) (fun w=>bk w e h fun e h=>bk (a9 dst (.d (.tup []))) e h fun e h=>go e h s))
  {next:Act->World->Prop} {Q:Exit->Act->World->Prop} (dn:∀ e' h' s' L' F' a' w',Good cx r m L' F' ⟨e',h',s'⟩ a' w'->a'.tmps.size=a.tmps.size->Tr F w F' w'->go e' h' s'->next a' w') (GM:∀ e a' w',oP Y cx r F w a.tmps.size e a' w'->Q e a' w'):wpOpIn (fr r) 0 P ops Q i next a w:=by
  simp only[wpOpIn,h0];obtain⟨M0,SC,Ax⟩:=Eh (s:=s) (h:=h) (dst:=dst) (op:=op) (ty:=ty) (pos:=pos) (after:=after) hk (fun _ _ h=>h) hg;clear hk;obtain⟨db,yz⟩:=hg.Mf Ax;rcases SC with⟨hw,hk⟩|⟨hw,hk⟩
  ·rw[hw]
   simp only[if_true];rw[cj s]at hk;have Jh:(aK (⟨e,h,s⟩:St σ) M0).s=s:=cT _ _;generalize (aK (⟨e,h,s⟩:St σ) M0)=oh at hk db Jh;obtain⟨e1,h1,s1⟩:=oh;simp only at hk Jh;subst Jh;have fin:∀ {o:Oper} {ws:List Wr},o=⟨dst,op,ty,pos,after,guard⟩->Out P e1 h1 o ws->bk ws e1 h1 (fun e h=>go e h s1)->(∀ c,op ≠ .defer c) ->
     Oper.wpIn (fr r) 0 P ⟨dst,op,ty,pos,after,guard⟩ a w next Q:=by
    intro o ws ho ij hk qT;subst ho;refine ze ij (st:=⟨e1,h1,s1⟩) (fun _ _ h=>h) (fun _ _ h=>h) db xj qT fun x L' F' w' dY lL=>?_;rw[cj s1]at hk;have ss:(aK (⟨e1,h1,s1⟩:St σ) ws).s=s1:=cT _ _;generalize (aK (⟨e1,h1,s1⟩:St σ) ws)=rA at hk dY ss;obtain⟨e2,h2,s2⟩:=rA;simp only at hk ss;subst ss;exact dn _ _ _ _ _ _ _ dY (eg _) lL hk
   by_cases dH:∃ c,op = .call c
   ·obtain⟨⟨callee,args,tys⟩,rfl⟩:=dH
    cases callee with
    | builtin b=>
     obtain⟨ws,hk,ij⟩:=pO (P:=P) (e:=e1) (h:=h1) (dst:=dst) (b:=b) (args:=args) (tys:=tys) (K:=fun ws=>bk ws e1 h1 fun e h=>go e h s1) (ty:=ty) (pos:=pos) (after:=after) (guard:=guard) hT hk;exact fin rfl ij hk (fun c e=>by cases e)
    | invoke f n=>
     have hk:Jl P Y dst f n args.toList e1 h1 s1 go:=hk;unfold Jl at hk;split at hk;case h_2=>exact hk.elim
     rename_i t v l' hf jO;obtain⟨g,hm,hk⟩:=hk;obtain⟨oa,dH⟩:=hk;obtain⟨y,cP,hv⟩:=db.aM hf;have cr:=yP db jO hv;have dH:=dH cx hY r m L F a w (#[y]++args.map a.eval) db xj cr;have bA:=B1 (P:=P) hm oa cP (w:=w) (dst:=dst) (args:=args) (tys:=tys) (ty:=ty) (pos:=pos) (after:=after) (guard:=guard);refine⟨fun _ _=>trivial,?_⟩;rw[Oper.semAt_eq _ _ _ (fun c e=>by cases e),bA,Oper.uponIn_enter];refine⟨(fun h=>by cases h),(ib dH).mono ?_⟩;rintro en w' (⟨x,rfl,st',L',F',fK,dY,lL⟩|⟨pv,pe,ph,ps,L',F',rfl,hy,Gz,Hp⟩);case inr=>exact GM _ _ _ ⟨pv,pe,ph,ps,m,L',F',rfl,hy,Gz,Hp,rfl⟩
     obtain⟨e2,h2,s2⟩:=st';exact dn _ _ _ _ _ _ _ dY (eg _) lL fK
    | value f=>
     have hk:DW P Y dst f args.toList e1 h1 s1 (go):=hk;unfold DW at hk;have call:∀ (g:FuncId) (yc:List V) (lc:Array Value) (l':List V),cQ e1 args.toList=some l'->a.eval f = .func (.func g) #[] lc->aq cx.yv L F w yc lc.toList ->
       eE P Y ⟨e1,h1,s1⟩ dst g (l'++yc) (fun|⟨e,h,s⟩=>go e h s) ->
       Oper.wpIn (fr r) 0 P ⟨dst,.call ⟨.value f,args,tys⟩,ty,pos,after,guard⟩ a w next Q:=by
      intro g yc lc l' jO cP jM hc;obtain⟨oa,dH⟩:=hc;have cr:aq cx.yv L F w (l'++yc) (args.map a.eval++lc).toList:=by
       simpa using (db.cQ jO).append jM
      have dH:=dH cx hY r m L F a w (args.map a.eval++lc) db xj cr;have bA:(execOp a.eval ⟨dst,.call ⟨.value f,args,tys⟩,ty,pos,after,guard⟩).run P w = .ok (.enter g (args.map a.eval++lc)) w:=by
       simp[execOp,resolve,Deferred.ofValue,cP,invoke,oa]
      refine⟨fun _ _=>trivial,?_⟩;rw[Oper.semAt_eq _ _ _ (fun c e=>by cases e),bA,Oper.uponIn_enter];refine⟨(fun h=>by cases h),(ib dH).mono ?_⟩;rintro en w' (⟨x,rfl,st',L',F',fK,dY,lL⟩|⟨pv,pe,ph,ps,L',F',rfl,hy,Gz,Hp⟩);case inr=>exact GM _ _ _ ⟨pv,pe,ph,ps,m,L',F',rfl,hy,Gz,Hp,rfl⟩
      obtain⟨e2,h2,s2⟩:=st';exact dn _ _ _ _ _ _ _ dY (eg _) lL fK
     split at hk
     ·rename_i g bS l' hf jO
      obtain⟨lc,cP,jM⟩:=db.aM hf;exact call g (inj bS) lc l' jO cP (aq.inj.2 jM) hk
     ·rename_i g bS l' hf jO
      obtain⟨lc,cP,jM⟩:=db.aM hf;exact call g bS lc l' jO cP jM hk
     ·rename_i g first l' hf jO
      obtain⟨lf,cP,o9⟩:=db.aM hf;obtain⟨oa,dH⟩:=hk;have cr:aq cx.yv L F w (inj first++l') (lf++args.map a.eval).toList:=by
       simpa using (aq.inj.2 o9).append (db.cQ jO)
      have dH:=dH cx hY r m L F a w (lf++args.map a.eval) db xj cr;have bA:(execOp a.eval ⟨dst,.call ⟨.value f,args,tys⟩,ty,pos,after,guard⟩).run P w = .ok (.enter g (lf++args.map a.eval)) w:=by
       simp[execOp,resolve,Deferred.ofValue,cP,invoke,oa]
      refine⟨fun _ _=>trivial,?_⟩;rw[Oper.semAt_eq _ _ _ (fun c e=>by cases e),bA,Oper.uponIn_enter];refine⟨(fun h=>by cases h),(ib dH).mono ?_⟩;rintro en w' (⟨x,rfl,st',L',F',fK,dY,lL⟩|⟨pv,pe,ph,ps,L',F',rfl,hy,Gz,Hp⟩);case inr=>exact GM _ _ _ ⟨pv,pe,ph,ps,m,L',F',rfl,hy,Gz,Hp,rfl⟩
      obtain⟨e2,h2,s2⟩:=st';exact dn _ _ _ _ _ _ _ dY (eg _) lL fK
     ·rename_i l' hf jO
      obtain⟨lp,zN,cP⟩:=db.aM hf;obtain⟨hc⟩:=hk;have cr:aq cx.yv L F w l' (args.map a.eval).toList:=by simpa using db.cQ jO
      obtain⟨fn,tmps,xR,body,yG,Ja⟩:=hc cx hY lp zN r m L F a w (args.map a.eval) db xj cr;have bA:(execOp a.eval ⟨dst,.call ⟨.value f,args,tys⟩,ty,pos,after,guard⟩).run P w = .ok (.round lp fn tmps xR body) w:=by
       simp[execOp,resolve,Deferred.ofValue,cP,invoke,yG]
      refine⟨fun _ _=>trivial,?_⟩;rw[Oper.semAt_eq _ _ _ (fun c e=>by cases e),bA,Oper.uponIn_round];refine⟨(fun h=>by cases h),(A3 Ja).mono ?_⟩;rintro en w' ⟨x,rfl,st',L',F',fK,dY,lL⟩;obtain⟨e2,h2,s2⟩:=st';exact dn _ _ _ _ _ _ _ dY (eg _) lL fK
     ·exact hk.elim
   ·by_cases K0:∃ b t x y ty,op = .binOp b t x y ty
    ·obtain⟨b,t,x,y,ty',rfl⟩:=K0
     have hk:(match xw T e1 b t x y with
      | some (neg,ne)=>J9 neg ne fun b=>bk (a9 dst (.d (.bool b))) e1 h1 fun e h=>go e h s1
      | none=>fo T e1 h1 dst (.binOp b t x y ty') fun ws=>bk ws e1 h1 fun e h=>go e h s1):=hk
     split at hk
     ·rename_i neg ne hn
      obtain⟨hk⟩:=hk;obtain⟨bb,n9,bA⟩:=E6 (P:=P) hT hn (st:=⟨e1,h1,s1⟩) (fun _ _ h=>h) db (dst:=dst) (ty:=ty) (ty':=ty') (pos:=pos) (after:=after) (guard:=guard);have hk:=hk bb n9;have iX:=db.a9 (d:=dst) (v:=.d (.bool (wN neg bb))) (x:=.bool (wN neg bb)) xj rfl;refine⟨fun _ _=>trivial,?_⟩;rw[Oper.semAt_eq _ _ _ (fun c e=>by cases e),bA];rw[cj s1]at hk;have ss:(aK (⟨e1,h1,s1⟩:St σ) (a9 dst (.d (.bool (wN neg bb))))).s=s1:=cT _ _;generalize (aK (⟨e1,h1,s1⟩:St σ) (a9 dst (.d (.bool (wN neg bb)))))=rA at hk iX ss;obtain⟨e2,h2,s2⟩:=rA;simp only at hk ss;subst ss;exact dn _ _ _ _ _ _ _ iX (eg _) (Tr.refl F w) hk
     ·obtain⟨ws,hk,ij⟩:=xy (P:=P) (ty:=ty) (pos:=pos) (after:=after) (guard:=guard) hT hk
      exact fin rfl ij hk (fun c e=>by cases e)
    by_cases BF:∃ x,op = .next x false
    ·obtain⟨x,rfl⟩:=BF
     exact AR (P:=P) (ty:=ty) (pos:=pos) (after:=after) (guard:=guard) db xj hk dn
    by_cases H0:∃ x,op = .panic x
    ·obtain⟨x,rfl⟩:=H0
     have hk:Jt Y x e1 h1 s1:=hk;unfold Jt at hk;split at hk;case h_2=>exact hk.elim
     rename_i t k n hx;have cP:a.eval x = .iface t (.int k n):=by
      obtain⟨y,h2,h3⟩:=db.aM hx;have h3:y = .int k n:=h3;rw[h2,h3]
     refine⟨fun _ _=>trivial,?_⟩;have bA:(execOp a.eval ⟨dst,.panic x,ty,pos,after,guard⟩).run P w = .halt (.panic (.iface t (.int k n))) w:=by
      simp[execOp,cP,Instr.panic,goPanic]
     rw[Oper.semAt_eq _ _ _ (fun c e=>by cases e),bA];exact GM _ _ _ ⟨_,e1,h1,s1,m,L,F,rfl,hk,db,Tr.refl F w,rfl⟩
    rw[Fy (fun c hc=>dH ⟨c,hc⟩) (fun b t x y ty hc=>K0 ⟨b,t,x,y,ty,hc⟩) (fun x hc=>BF ⟨x,hc⟩) (fun x hc=>H0 ⟨x,hc⟩)]at hk;have qT:∀ c,op ≠ .defer c:=fun c hc=>by subst hc;exact hk
    obtain⟨ws,hk,ij⟩:=xy (P:=P) (ty:=ty) (pos:=pos) (after:=after) (guard:=guard) hT hk;exact fin rfl ij hk qT
  ·rw[hw]
   simp only[Bool.false_eq_true,if_false];refine⟨fun _ _=>trivial,?_⟩;rw[cj s]at hk;have Jh:(aK (⟨e,h,s⟩:St σ) M0).s=s:=cT _ _;generalize (aK (⟨e,h,s⟩:St σ) M0)=oh at hk db Jh;obtain⟨e1,h1,s1⟩:=oh;simp only at hk Jh;subst Jh;rw[cj s1]at hk;have iX:=db.a9 (d:=dst) (v:=.d (.tup [])) (x:=undef) xj ⟨#[],rfl,rfl⟩;have ss:(aK (⟨e1,h1,s1⟩:St σ) (a9 dst (.d (.tup [])))).s=s1:=cT _ _;generalize (aK (⟨e1,h1,s1⟩:St σ) (a9 dst (.d (.tup []))))=rA at hk iX ss;obtain⟨e2,h2,s2⟩:=rA;simp only at hk ss;subst ss;exact dn _ _ _ _ _ _ _ iX (eg _) (Tr.refl F w) hk
theorem nL(hT:bj P T)(hY:cX P Y cx){ops:Array Oper}{F0:Nat->Nat}{w0:World}{n0:Nat}:∀ (l:List Oper) (i:Nat) (hl:∀ j,l[j]?=ops[i+j]?) {e:Env} {h:av} {s:σ} {K:Env->av->σ->Prop} {L:Loc} {F:Nat->Nat} {a:Act} {w:World},
  Good cx r m L F ⟨e,h,s⟩ a w->a.tmps.size=n0->(∀ o∈l,∀ d,o.dst=some d->d<n0)->Tr F0 w0 F w->wpOps P T Y ops.toList l e h s K ->
  wpOpsIn (fr r) 0 P ops (la Y cx r m F0 w0 n0 K) (List.range' i l.length) a w
 | [],i,hl,e,h,s,K,L,F,a,w,hg,hs,hd,tr,hk=>.inl ⟨e,h,s,L,F,rfl,hk,hg,tr,hs⟩
 | ⟨dst,op,ty,pos,after,guard⟩::l,i,hl,e,h,s,K,L,F,a,w,hg,hs,hd,tr,hk=>by
  rw[wpOps_cons]at hk;have h0:ops[i]?=some ⟨dst,op,ty,pos,after,guard⟩:=by simpa using (hl 0).symm
  have jz:∀ j,l[j]?=ops[i+1+j]?:=fun j=>by have:=hl (j+1);simpa[Nat.add_assoc,Nat.add_comm 1 j]using this
  have xj:∀ d,dst=some d->d<a.tmps.size:=fun d Er=>by rw[hs];exact hd _ (List.mem_cons_self ..) d Er
  have BB:∀ o∈l,∀ d,o.dst=some d->d<n0:=fun o ho=>hd o (List.mem_cons_of_mem _ ho);rw[List.length_cons,List.range'_succ,wpOpsIn_cons];exact ve hT hY h0 hg xj hk (fun e' h' s' L' F' a' w' dY Jc lL fK=>nL hT hY l (i+1) jz dY (Jc.trans hs) BB (Tr.trans tr lL) fK) fun e' a' w' hp=>.inr (hp.trans tr hs)
end
section
variable {F : Fence} {n : Nat} {P : Program} {Q : Exit -> Act -> World -> Prop} {a : Act} {w : World} {b : Frame} {k : List Item} {cs : List Frame}
theorem gG{c:Code}:step P (lone (b.atR a (.code (.scope c)::k)) cs w) = .next (lone (b.atR a (.code c :: .inScope c::k)) cs w):=
 step_lone_go (by simp[stepG,stepG.exec,Frame.atR])
theorem vC{c:Code}:step P (lone (b.atR a (.inScope c::k)) cs w) = .next (lone (b.atR a k) cs w):=
 step_lone_go (by simp[stepG,stepG.exec,Frame.atR])
theorem Bg{c:Code}(h:c.wpIn F n P (Exit.noGoto Q) a w):(Code.scope c).wpIn F n P Q a w:=by
 intro b k cs S9 hb hr;have h0:(lone (b.atR a (.code (.scope c)::k)) cs w).fenced P F:=fenced_calm hb hr rfl;obtain⟨e,a₁,w₁,hq,CH⟩:=h b (.inScope c::k) cs S9 hb hr
 cases e with
 | normal=>exact⟨.normal,a₁,w₁,hq,.head h0 gG (StepsIn.trans CH (.one (fenced_calm hb hr rfl) vC))⟩
 | exit id'=>
  have hx:exitTo id' (.inScope c::k)=exitTo id' k:=by simp[exitTo]
  exact⟨.exit id',a₁,w₁,hq,fun k' hk=>.head h0 gG (CH.1 k' (by rw[hx];exact hk)),
   fun zP hk=>let ⟨k₁,h1,h2⟩:=CH.2 zP (by rw[hx];exact hk);⟨k₁,h1,.head h0 gG h2⟩⟩
 | goto l=>exact hq.elim
 | ret=>exact⟨_,a₁,w₁,hq,.of_steps (.one h0 gG) CH⟩
 | panic ch=>exact⟨_,a₁,w₁,hq,.of_steps (.one h0 gG) CH⟩
 | outgrown=>exact⟨_,a₁,w₁,hq,.of_steps (.one h0 gG) CH⟩
end
def DH(P:Program)(T:dM)(ops:Array Oper)(rt:RT):Prop:=
 ∀ {σ:Type} (cx:Cx σ),oO P cx -> ∀ (r:Option Nat) (m:List Nat) (L:Loc) (F:Nat->Nat) (e:Env) (h:av) (s:σ) (a:Act) (w:World) (K:Env->av->Prop),
  Good cx r m L F ⟨e,h,s⟩ a w->(∀ o∈ops.toList,∀ d,o.dst=some d->d<a.tmps.size)->pN rt.made e h (fun e h=>Bf P T rt.made ops.toList (ops.toList.zip rt.ev) [] e h K) ->
  ∀ id,(Code.region id ops true).wpIn (fr r) 0 P (Bl cx r m F w a.tmps.size fun e h s'=>K e h/\s'=s) a w
def cY(P:Program)(T:dM)(ft:FT):Code->Prop
 | .region id ops draw=>draw=true -> ∀ rt,get ft.tb id=some rt->DH P T ops rt
 | .seq a b=>cY P T ft a/\cY P T ft b
 | .cond _ a b=>cY P T ft a/\cY P T ft b
 | .block _ a=>cY P T ft a
 | .loop a=>cY P T ft a
 | .scope a=>cY P T ft a
 | .rangeFunc _ _ a b=>cY P T ft a/\cY P T ft b
 | _=>True
theorem dS{α:Type}(l:List Nat)(t:sd α):cM (aP l t) t:=by
 induction t with
 | nil=>exact fun _ _ h=>h
 | cons kv r ih=>
  obtain⟨k,v⟩:=kv;intro s u hu;simp only[aP]at hu;split at hu
  ·simp only[get]at hu ⊢
   split at hu
   ·exact hu
   ·exact ih s u hu
  ·rename_i hk
   have key:∀ (t:sd α) (s:Nat) (u:α),get (aP l t) s=some u->sy l s=true:=by
    intro t
    induction t with
    | nil=>intro s u h;cases h
    | cons kv r ih=>
     obtain⟨k,v⟩:=kv;intro s u h;simp only[aP]at h;split at h
     ·rename_i hk
      simp only[get]at h;split at h
      ·rename_i he;have:=Nat.eq_of_beq_eq_true he;subst this;exact hk
      ·exact ih s u h
     ·exact ih s u h
   have hs:=key r s u hu;simp only[get];split
   ·rename_i he
    have:=Nat.eq_of_beq_eq_true he;subst this;rw[hs]at hk;cases hk
   ·exact ih s u hu
section
variable {P : Program} {T : dM} {ft : FT} {σ : Type} {Y : Hd σ}
theorem nD{n:Nat}{id:Nat}{ops:Array Oper}{draw:Bool}(h:codeOk n (.region id ops draw)=true):∀ o∈ops.toList,∀ d,o.dst=some d->d<n:=by
 intro o ho d hd;have:=List.all_eq_true.1 (show ops.toList.all _=true from h) o ho;rw[hd]at this;simpa using this
theorem dU(hT:bj P T):∀ (c:Code),cY P T ft c -> ∀ (st:St σ) (K:ew->St σ->Prop),FI P T ft Y c st K->zJ P Y c st K
 | .skip,_,st,K,h=>fun cx hY r m L F a w hg hc=>wpIn_skip (.inl ⟨.normal,st,m,L,F,rfl,h,hg,Tr.refl F w,rfl⟩)
 | .exit i,_,st,K,h=>fun cx hY r m L F a w hg hc=>wpIn_exit (.inl ⟨.exit i,st,m,L,F,rfl,h,hg,Tr.refl F w,rfl⟩)
 | .ret,_,st,K,h=>fun cx hY r m L F a w hg hc=>wpIn_ret (.inl ⟨.ret,st,m,L,F,rfl,h,hg,Tr.refl F w,rfl⟩)
 | .label l,_,st,K,h=>fun cx hY r m L F a w hg hc=>wpIn_label (.inl ⟨.normal,st,m,L,F,rfl,h,hg,Tr.refl F w,rfl⟩)
 | .goto l,_,st,K,h=>False.elim h
 | .refuse y,_,st,K,h=>False.elim h
 | .loop c,_,st,K,h=>by obtain⟨h⟩:=(show x4 P ft Y c st K from h);exact h
 | .rangeFunc g ps a b,_,st,K,h=>by obtain⟨h⟩:=(show gK P ft Y g ps a b st K from h);exact h
 | .scope c,hD,st,K,h=>fun cx hY r m L F a w hg hc=>by
  have:=dU hT c hD st K h cx hY r m L F a w hg hc;exact Bg (wpIn_mono this fun ex a' w' hq=>by
   rcases hq with⟨e',st',m',L',F',rfl,hk⟩|hp
   ·cases e'<;>exact .inl ⟨_,st',m',L',F',rfl,hk⟩
   ·have EM:=hp
    obtain⟨v,pe,ph,ps,m',L',F',rfl,_⟩:=hp;exact .inr EM)
 | .seq x y,hD,st,K,h=>fun cx hY r m L F a w hg hc=>by
  simp only[codeOk,Bool.and_eq_true]at hc;have:=dU hT x hD.1 st _ h cx hY r m L F a w hg hc.1;refine wpIn_seq (wpIn_mono this fun ex a' w' hq=>?_);rcases hq with⟨e',st',m',L',F',rfl,hk,dY,tr,hs⟩|hp
  case inr=>
   have EM:=hp;obtain⟨v,pe,ph,ps,m',L',F',rfl,_⟩:=hp;exact .inr EM
  cases e' with
  | normal=>
   refine wpIn_mono (dU hT y hD.2 st' K hk cx hY r m' L' F' a' w' dY (by rw[hs];exact hc.2)) fun ex Hz B9 hq=>?_;rcases hq with⟨NF,Hm,TH,Ii,FK,rfl,fK,IX,lL,Jc⟩|hp
   ·exact .inl ⟨NF,Hm,TH,Ii,FK,rfl,fK,IX,Tr.trans tr lL,Jc.trans hs⟩
   ·exact .inr (hp.trans tr hs)
  | exit i=>exact .inl ⟨.exit i,st',m',L',F',rfl,hk,dY,tr,hs⟩
  | ret=>exact .inl ⟨.ret,st',m',L',F',rfl,hk,dY,tr,hs⟩
 | .cond c x y,hD,st,K,h=>fun cx hY r m L F a w hg hc=>by
  simp only[codeOk,Bool.and_eq_true]at hc;obtain⟨e,hp,s⟩:=st;have h:D1 (aM e c) (FI P T ft Y x ⟨e,hp,s⟩ K) (FI P T ft Y y ⟨e,hp,s⟩ K):=h;unfold D1 at h;split at h
  ·rename_i t ht
   have cP:a.eval c = .bool t:=hg.aM ht;rcases tu h with⟨rfl,h⟩|⟨rfl,h⟩
   ·exact wpIn_cond cP (dU hT x hD.1 _ K h cx hY r m L F a w hg hc.1)
   ·exact wpIn_cond cP (dU hT y hD.2 _ K h cx hY r m L F a w hg hc.2)
  ·exact h.elim
 | .block i c,hD,st,K,h=>fun cx hY r m L F a w hg hc=>by
  have:=dU hT c hD st (zY i K) h cx hY r m L F a w hg hc;refine wpIn_block (wpIn_mono this fun ex a' w' hq=>?_);rcases hq with⟨e',st',m',L',F',rfl,hk,fe⟩|hp
  case inr=>
   have EM:=hp;obtain⟨v,pe,ph,ps,m',L',F',rfl,_⟩:=hp;exact .inr EM
  cases e' with
  | normal=>exact .inl ⟨.normal,st',m',L',F',rfl,hk,fe⟩
  | ret=>exact .inl ⟨.ret,st',m',L',F',rfl,hk,fe⟩
  | exit j=>
   simp only[ew.Iu,Exit.inBlock];simp only[zY]at hk;split at hk
   ·rename_i jN
    rw[if_pos (Nat.eq_of_beq_eq_true jN)];exact .inl ⟨.normal,st',m',L',F',rfl,hk,fe⟩
   ·rename_i jN
    rw[if_neg (by rintro rfl;simp at jN)];exact .inl ⟨.exit j,st',m',L',F',rfl,hk,fe⟩
 | .region id ops draw,hD,st,K,h=>fun cx hY r m L F a w hg hc=>by
  obtain⟨e,hp,s⟩:=st;have fin:∀ {ex:Exit} {a':Act} {w':World} {e':Env} {h':av} {s':σ} {L':Loc} {F':Nat->Nat},ex = .normal->dx (aP ft.ks e') (fun e=>K .normal ⟨e,h',s'⟩)->Good cx r m L' F' ⟨e',h',s'⟩ a' w'->Tr F w F' w'->a'.tmps.size=a.tmps.size ->
    (∃ (e':ew) (st':St σ) (m':List Nat) (L':Loc) (F':Nat->Nat),ex=e'.Iu/\K e' st'/\Good cx r m' L' F' st' a' w'/\Tr F w F' w'/\a'.tmps.size=a.tmps.size)\/oP Y cx r F w a.tmps.size ex a' w':=by
   intro ex a' w' e' h' s' L' F' hex hk dY tr hs;rw[eY]at hk;exact .inl ⟨.normal,_,m,L',F',hex,hk,dY.sub (dS ft.ks e') (fun _ _ h=>h),tr,hs⟩
  cases draw with
  | false=>
   have h:wpOps P T Y ops.toList ops.toList e hp s (fun e h s=>dx (aP ft.ks e) fun e=>K .normal ⟨e,h,s⟩):=h;refine wpIn_mono (wpIn_region (id:=id) (Q:=la Y cx r m F w a.tmps.size (fun e h s=>dx (aP ft.ks e) fun e=>K .normal ⟨e,h,s⟩)) ?_) fun ex a' w' hq=>?_
   ·have:=nL hT hY ops.toList 0 (fun j=>by simp) hg rfl (nD hc) (Tr.refl F w) h
    rwa [<- List.range_eq_range',Array.length_toList]at this
   ·rcases hq with⟨e',h',s',L',F',hex,hk,dY,tr,hs⟩|hp
    ·exact fin hex hk dY tr hs
    ·exact .inr hp
  | true=>
   have h:(match get ft.tb id with
    | some ⟨made,ev⟩=>pN made e hp fun e h=>Bf P T made ops.toList (ops.toList.zip ev) [] e h fun e h=>dx (aP ft.ks e) fun e=>K .normal ⟨e,h,s⟩
    | none=>pI P ft Y id ops ⟨e,hp,s⟩ K):=h
   split at h
   ·rename_i made ev PW
    have So:=hD rfl ⟨made,ev⟩ PW cx hY.laid r m L F e hp s a w _ hg (nD hc) h;refine wpIn_mono (So id) fun ex a' w' hq=>?_;obtain⟨e',h',s',L',F',hex,⟨hk,rfl⟩,dY,tr,hs⟩:=hq;exact fin hex hk dY tr hs
   ·obtain⟨h⟩:=h
    exact h cx hY r m L F a w hg hc
end
@[ext] structure Fs where
 env:Nat->Option V
 heap:Nat->Option Obj
def dN(f:Fs):Wr->Fs
 | .set s v=>⟨fun x=>if x=s then some v else f.env x,f.heap⟩
 | .obj i o=>⟨f.env,fun x=>if x=i then some o else f.heap x⟩
 | .new i o=>⟨f.env,fun x=>if x=i then some o else f.heap x⟩
 | .newq i o=>⟨f.env,fun x=>if x=i then some o else f.heap x⟩
 | .del i=>⟨f.env,fun x=>if x=i then none else f.heap x⟩
def bz(f:Fs):List Wr->Fs
 | []=>f
 | w::r=>bz (dN f w) r
def bW{σ:Type}(st:St σ):Fs:=⟨get st.env,get st.heap⟩
def lM:List Wr->List Nat
 | []=>[]
 | .set s _::r=>s::lM r
 | _::r=>lM r
theorem fW:∀ {l:List Nat} {n:Nat},sy l n=true↔n∈l
 | [],n=>by simp[sy]
 | k::r,n=>by
  simp only[sy,List.mem_cons]
  cases h:Nat.beq k n with
  | true=>simp[Nat.eq_of_beq_eq_true h]
  | false=>
   have:n≠k:=by rintro rfl;simp at h
   simp[this,fW (l:=r)]
theorem fP:∀ {l m:List Nat},iI l m=true -> ∀ x∈l,x∉m
 | [],m,_,x,hx=>by cases hx
 | k::r,m,h,x,hx=>by
  simp only[iI]at h;split at h
  ·cases h
  rename_i hk;rcases List.mem_cons.1 hx with rfl|hx
  ·intro hm;rw[fW.2 hm]at hk;cases hk
  ·exact fP h x hx
theorem wM:∀ {l m:List Nat},Hn l m=true -> ∀ x∈l,x∈m
 | [],m,_,x,hx=>by cases hx
 | k::r,m,h,x,hx=>by
  simp only[Hn]at h;split at h;case h_2=>cases h
  rename_i hk;rcases List.mem_cons.1 hx with rfl|hx
  ·exact fW.1 hk
  ·exact wM h x hx
theorem gy:∀ {ws:List Wr} (f:Fs) {x:Nat},x∉lM ws->(bz f ws).env x=f.env x
 | [],_,_,_=>rfl
 | w::r,f,x,h=>by
  rw[bz]
  cases w with
  | set s v=>
   simp only[lM,List.mem_cons,not_or]at h;rw[gy _ h.2];simp[dN,h.1]
  | _=>rw[gy (ws:=r) _ h];rfl
theorem fq:∀ {ws:List Wr} (f:Fs) {x:Nat},x∉ct ws->(bz f ws).heap x=f.heap x
 | [],_,_,_=>rfl
 | w::r,f,x,h=>by
  rw[bz]
  cases w with
  | set s v=>rw[fq (ws:=r) _ h];rfl
  | _=>
   simp only[ct,List.mem_cons,not_or]at h;rw[fq _ h.2];simp[dN,h.1]
theorem jb:∀ {ws:List Wr} {f g:Fs} {x:Nat},f.env x=g.env x->(bz f ws).env x=(bz g ws).env x
 | [],_,_,_,h=>h
 | w::r,f,g,x,h=>by
  rw[bz,bz];apply jb;cases w<;>simp[dN,h]
theorem ia:∀ {ws:List Wr} {f g:Fs} {x:Nat},f.heap x=g.heap x->(bz f ws).heap x=(bz g ws).heap x
 | [],_,_,_,h=>h
 | w::r,f,g,x,h=>by
  rw[bz,bz];apply ia;cases w<;>simp[dN,h]
theorem zV{u v:List Wr}(f:Fs)(h1:∀ x∈lM u,x∉lM v)(h2:∀ x∈ct u,x∉ct v):bz (bz f u) v=bz (bz f v) u:=by
 ext1
 ·funext x
  by_cases hx:x∈lM u
  ·rw[gy _ (h1 x hx)]
   exact(jb (gy f (h1 x hx))).symm
  ·rw[gy (ws:=u) _ hx]
   exact jb (gy f hx)
 ·funext x
  by_cases hx:x∈ct u
  ·rw[fq _ (h2 x hx)]
   exact(ia (fq f (h2 x hx))).symm
  ·rw[fq (ws:=u) _ hx]
   exact ia (fq f hx)
theorem yq{σ:Type}:∀ (ws:List Wr) (st:St σ),bW (aK st (pA ws))=bz (bW st) ws
 | [],st=>rfl
 | w::r,st=>by
  have key:∀ w':Wr,bW (bE st w')=dN (bW st) w->bW (aK st (w'::pA r))=bz (bW st) (w::r):=by
   intro w' h;rw[aK,yq r,bz,h]
  cases w with
  | set s v=>exact key _ (by simp only[bW,bE,dN];congr 1;funext x;rw[cH])
  | obj i o=>exact key _ (by simp only[bW,bE,dN];congr 1;funext x;rw[cH])
  | new i o=>exact key (.newq i o) (by simp only[bW,bE,dN];congr 1;funext x;rw[aF])
  | newq i o=>exact key _ (by simp only[bW,bE,dN];congr 1;funext x;rw[aF])
  | del i=>exact key _ (by simp only[bW,bE,dN];congr 1;funext x;rw[c0])
structure ot(f:Fs)(id:Nat):Prop where
 none:f.heap id=none
 env:∀ s v,f.env s=some v->¬ fD v id
 heap:∀ i o,f.heap i=some o->¬ jg o id
mutual
theorem sY(id:Nat):∀ (v:V),¬ fD v id->az (aQ id) v=v
 | .d _,_=>rfl
 | .agg cs,h=>by simp only[az];rw[jW id cs h]
 | .tup cs,h=>by simp only[az];rw[jW id cs h]
 | .clo _ cs,h=>by simp only[az];rw[jW id cs h]
 | .ptr i off,h=>by
  have hi:Nat.beq i id=false:=by rw[Bool.eq_false_iff];intro e;exact h (Nat.eq_of_beq_eq_true e)
  simp only[az,aQ,fk,hi]
 | .ep i sz j off,h=>by
  have hi:Nat.beq i id=false:=by rw[Bool.eq_false_iff];intro e;exact h (Nat.eq_of_beq_eq_true e)
  simp only[az,aQ,fk,hi]
 | .sl i sz off len,h=>by
  have hi:Nat.beq i id=false:=by rw[Bool.eq_false_iff];intro e;exact h (Nat.eq_of_beq_eq_true e)
  simp only[az,aQ,fk,hi]
 | .mp i,h=>by
  have hi:Nat.beq i id=false:=by rw[Bool.eq_false_iff];intro e;exact h (Nat.eq_of_beq_eq_true e)
  simp only[az,aQ,fk,hi]
 | .it i,h=>by
  have hi:Nat.beq i id=false:=by rw[Bool.eq_false_iff];intro e;exact h (Nat.eq_of_beq_eq_true e)
  simp only[az,aQ,fk,hi]
 | .yld,_=>rfl
 | .unk,_=>rfl
theorem jW(id:Nat):∀ (vs:List V),¬ bF vs id->ca (aQ id) vs=vs
 | [],_=>rfl
 | v::r,h=>by
  simp only[bF,not_or]at h;simp only[ca];rw[sY id v h.1,jW id r h.2]
end
theorem wh(id:Nat):∀ (es:List (List V)),¬ bF es.flatten id->a7 (aQ id) es=es
 | [],_=>rfl
 | e::r,h=>by
  simp only[List.flatten_cons,nz,not_or]at h;simp only[a7];rw[jW id e h.1,wh id r h.2]
theorem yS(id:Nat)(o:Obj)(h:¬ jg o id):Obj.az (aQ id) o=o:=by
 cases o with
 | box c=>cases c with
  | dd l=>rfl
  | vv l=>simp only[Obj.az];rw[jW id l h]
 | arr sz es=>cases es with
  | dd l=>rfl
  | vv l=>simp only[Obj.az];rw[wh id l h]
 | map cc=>rfl
 | iter s n=>rfl
 | buf t s=>rfl
 | tb t l=>simp only[Obj.az];rw[jW id l h]
 | mit v n l u=>simp only[Obj.az];rw[sY id v h]
mutual
theorem dD(i:Nat):∀ (v:V),fD v i->i∈bq v
 | .d _,h=>h.elim
 | .agg cs,h=>by simpa[bq]using ee i cs h
 | .tup cs,h=>by simpa[bq]using ee i cs h
 | .clo _ cs,h=>by simpa[bq]using ee i cs h
 | .ptr j off,h=>by have:j=i:=h;simp[bq,this]
 | .ep j sz k off,h=>by have:j=i:=h;simp[bq,this]
 | .sl j sz off len,h=>by have:j=i:=h;simp[bq,this]
 | .mp j,h=>by have:j=i:=h;simp[bq,this]
 | .it j,h=>by have:j=i:=h;simp[bq,this]
 | .yld,h=>h.elim
 | .unk,h=>h.elim
theorem ee(i:Nat):∀ (vs:List V),bF vs i->i∈bm vs
 | [],h=>h.elim
 | v::r,h=>by
  simp only[bm,List.mem_append];exact h.imp (dD i v) (ee i r)
end
theorem cp(i:Nat)(o:Obj)(h:jg o i):i∈bU o:=by
 cases o with
 | box c=>cases c with
  | dd l=>exact(ef l i h).elim
  | vv l=>exact ee i l h
 | arr sz es=>cases es with
  | dd l=>
   exfalso;have h:bF (aO l).flatten i:=h;rw[cI]at h;exact ef _ i h
  | vv l=>exact ee i l.flatten h
 | map cc=>exact h.elim
 | iter s n=>exact h.elim
 | buf t s=>exact h.elim
 | tb t l=>exact ee i l h
 | mit v n l u=>exact dD i v h
theorem ot.dN{f:Fs}{id:Nat}{w:Wr}(h:ot f id)(h1:id∉bX [w])(h2:id∉ct [w]):ot (dN f w) id:=by
 have put:∀ (i:Nat) (o:Obj),id∉bU o->id≠i->ot ⟨f.env,fun x=>if x=i then some o else f.heap x⟩ id:=by
  intro i o ho hi;refine⟨by simp[hi,h.none],h.env,fun j o' hj=>?_⟩;simp only at hj;split at hj
  ·cases hj;exact fun hn=>ho (cp id _ hn)
  ·exact h.heap j o' hj
 cases w with
 | set s v=>
  refine⟨h.none,fun t u hu=>?_,h.heap⟩;simp only[PX.dN]at hu;split at hu
  ·cases hu;exact fun hn=>h1 (by simp[bX,dD id _ hn])
  ·exact h.env t u hu
 | obj i o=>exact put i o (by simpa[bX]using h1) (by simpa[ct]using h2)
 | new i o=>exact put i o (by simpa[bX]using h1) (by simpa[ct]using h2)
 | newq i o=>exact put i o (by simpa[bX]using h1) (by simpa[ct]using h2)
 | del i=>
  refine⟨?_,h.env,fun j o' hj=>?_⟩
  ·simp only[PX.dN];split
   ·rfl
   ·exact h.none
  ·simp only[PX.dN]at hj
   split at hj
   ·cases hj
   ·exact h.heap j o' hj
theorem zC(w:Wr)(r:List Wr)(x:Nat):x∈bX (w::r)↔x∈bX [w]\/x∈bX r:=by cases w<;>simp[bX]
theorem Bc(w:Wr)(r:List Wr)(x:Nat):x∈ct (w::r)↔x∈ct [w]\/x∈ct r:=by cases w<;>simp[ct]
theorem ot.bz{id:Nat}:∀ {ws:List Wr} {f:Fs},ot f id->id∉bX ws->id∉ct ws->ot (bz f ws) id
 | [],f,h,_,_=>h
 | w::r,f,h,h1,h2=>by
  rw[zC,not_or]at h1;rw[Bc,not_or]at h2;exact ot.bz (ws:=r) (f:=PX.dN f w) (h.dN h1.1 h2.1) h1.2 h2.2
theorem r4{w:Wr}{r:List Wr}(h:cE (w::r)=true):cE r=true/\(∀ x∈bB r,x∉bX [w])/\(∀ x∈bB r,x∈ct [w] -> ∃ i,w = .del i)/\(∀ i o,w ≠ .newq i o):=by
 have key:∀ {l:List Nat},(match iI (bB r) l with
   | true=>cE r
   | false=>false)=true->cE r=true /\ ∀ x∈bB r,x∉l:=by
  intro l h;split at h
  ·rename_i hd;exact⟨h,fP hd⟩
  ·cases h
 cases w with
 | set s v=>
  obtain⟨h1,h2⟩:=key h;exact⟨h1,fun x hx=>by simpa[bX]using h2 x hx,fun x hx hm=>by simp[ct]at hm,fun i o e=>by cases e⟩
 | obj i o=>
  obtain⟨h1,h2⟩:=key h;exact⟨h1,fun x hx=>by have:=h2 x hx;simp at this;simpa[bX]using this.2,fun x hx hm=>by have:=h2 x hx;simp[ct]at hm;simp[hm]at this,fun i o e=>by cases e⟩
 | new i o=>
  obtain⟨h1,h2⟩:=key h;exact⟨h1,fun x hx=>by have:=h2 x hx;simp at this;simpa[bX]using this.2,fun x hx hm=>by have:=h2 x hx;simp[ct]at hm;simp[hm]at this,fun i o e=>by cases e⟩
 | newq i o=>cases h
 | del i=>exact⟨h,fun x hx=>by simp[bX],fun x hx hm=>⟨i,rfl⟩,fun i o e=>by cases e⟩
theorem sP{σ:Type}:∀ (ws:List Wr) (st:St σ),cE ws=true->(∀ id∈bB ws,ot (bW st) id)->bW (aK st ws)=bz (bW st) ws
 | [],st,_,_=>rfl
 | w::r,st,e7,hu=>by
  obtain⟨h1,h2,h3,h4⟩:=r4 e7;have JX:∀ id∈bB r,ot (bW st) id:=fun id dZ=>hu id (by cases w<;>simp[bB,dZ]);have key:bW (bE st w)=dN (bW st) w:=by
   cases w with
   | set s v=>simp only[bW,bE,dN];congr 1;funext x;rw[cH]
   | obj i o=>simp only[bW,bE,dN];congr 1;funext x;rw[cH]
   | new i o=>
    have hi:ot (bW st) i:=hu i (by simp[bB]);simp only[bW,bE,dN]
    congr 1
    ·funext x
     rw[bl]
     cases hx:get st.env x with
     | none=>rfl
     | some v=>simp only[Option.map_some];rw[sY i v (hi.env x v hx)]
    ·funext x
     rw[aF,bl,c0];split
     ·rfl
     ·cases hx:get st.heap x with
      | none=>rfl
      | some o'=>simp only[Option.map_some];rw[yS i o' (hi.heap x o' hx)]
   | newq i o=>exact absurd rfl (h4 i o)
   | del i=>simp only[bW,bE,dN];congr 1;funext x;rw[c0]
  rw[aK,bz,<- key];refine sP r _ h1 fun id dZ=>?_;rw[key];by_cases hm:id∈ct [w]
  ·obtain⟨i,rfl⟩:=h3 id dZ hm
   have hh:=JX id dZ;refine⟨?_,hh.env,fun j o' hj=>?_⟩
   ·simp only[PX.dN];split
    ·rfl
    ·exact hh.none
   ·simp only[PX.dN]at hj
    split at hj
    ·cases hj
    ·exact hh.heap j o' hj
  ·exact(JX id dZ).dN (h2 id dZ) hm
structure Rec where
 idx:Nat
 e:Env
 h:av
 os:List Nat
 ws:List Wr
 gZ:List Nat
def Rec.oo(r:Rec):OO:=⟨r.os,ct r.ws,bB r.ws,bX r.ws⟩
def Il(r:Rec)(f:Fs):Prop:=(∀ s v,get r.e s=some v->f.env s=some v)/\(∀ s o,get r.h s=some o->f.heap s=some o)
def mJ:List Rec->Fs->Fs->Prop
 | [],f,f'=>f'=f
 | r::l,f,f'=>Il r f/\mJ l (bz f r.ws) f'
structure wQ(a b:Rec):Prop where
 env:∀ x∈lM a.ws,get b.e x=none
 heap:∀ x∈ct a.ws,get b.h x=none
 Qv:∀ x∈lM a.ws,x∉lM b.ws
 y5:∀ x∈ct a.ws,x∉ct b.ws
 news:∀ x∈bB a.ws,x∉bX b.ws
structure Cf(a b:Rec):Prop where
 l:wQ a b
 r:wQ b a
theorem wQ.sub{a b:Rec}(h:wQ a b)(f:Fs):Il b (bz f a.ws)↔Il b f:=by
 constructor
 ·rintro ⟨h1,h2⟩
  refine⟨fun s v hs=>?_,fun s o hs=>?_⟩
  ·rw[<- h1 s v hs];exact(gy f fun hm=>by rw[h.env s hm]at hs;cases hs).symm
  ·rw[<- h2 s o hs];exact(fq f fun hm=>by rw[h.heap s hm]at hs;cases hs).symm
 ·rintro ⟨h1,h2⟩
  refine⟨fun s v hs=>?_,fun s o hs=>?_⟩
  ·rw[gy f fun hm=>by rw[h.env s hm]at hs;cases hs];exact h1 s v hs
  ·rw[fq f fun hm=>by rw[h.heap s hm]at hs;cases hs];exact h2 s o hs
theorem mJ.swap{a b:Rec}{l:List Rec}{f f':Fs}(hf:Cf a b)(h:mJ (a::b::l) f f'):mJ (b::a::l) f f':=by
 obtain⟨h1,h2,h3⟩:=h;refine⟨(hf.l.sub f).1 h2,(hf.r.sub f).2 h1,?_⟩;rw[zV f hf.r.Qv hf.r.y5];exact h3
theorem mJ.front{b:Rec}{l2:List Rec}{f':Fs}:∀ {l1:List Rec} {f:Fs},(∀ a∈l1,Cf a b)->mJ (l1++b::l2) f f'->mJ (b::(l1++l2)) f f'
 | [],_,_,h=>h
 | a::l1,f,hf,h=>by
  obtain⟨h1,h2⟩:=h;have:=mJ.front (l1:=l1) (fun i hi=>hf i (List.mem_cons_of_mem _ hi)) h2;exact mJ.swap (hf a (List.mem_cons_self ..)) ⟨h1,this⟩
def rG(P:Program)(ops:Array Oper)(q:Rec):Prop:=
 ∀ {σ:Type} (cx:Cx σ),oO P cx -> ∀ (r:Option Nat) (m:List Nat) (L:Loc) (F:Nat->Nat) (st:St σ) (a:Act) (w:World),cM q.e st.env->cM q.h st.heap->Good cx r m L F st a w ->
  (∀ o,ops[q.idx]?=some o -> ∀ k,o.dst=some k->k<a.tmps.size) -> ∀ (next:Act->World->Prop) (Q:Exit->Act->World->Prop),
  (∀ a' L' F' w',a'.tmps.size=a.tmps.size->Good cx r m L' F' (aK st q.ws) a' w'->Tr F w F' w'->next a' w')->wpOpIn (fr r) 0 P ops Q q.idx next a w
structure Pr(a b:Rec):Prop where
 lt:a.idx<b.idx
 free:a.idx∈b.gZ->Cf a b
 names:∀ x∈bB b.ws,x∉bX a.ws
 y5:∀ x∈bB b.ws,x∉ct a.ws
theorem fI:∀ {ws:List Wr} {x:Nat},x∈bB ws->x∈ct ws
 | [],_,h=>h
 | w::r,x,h=>by
  cases w<;>simp only[bB,ct,List.mem_cons]at h ⊢
  ·exact fI h
  ·exact .inr (fI h)
  ·exact h.imp id fI
  ·exact .inr (fI h)
  ·exact .inr (fI h)
def mn:Nat->List Oper->Bool
 | _,[]=>true
 | i,o::r=>o.after.toList.all (fun e=>!Region.binds .any e||Nat.blt e.on i)&&mn (i+1) r
def DP(ev:List OT)(o:Oper)(i:Nat):Bool:=
 o.after.toList.any fun e=>Region.binds .any e&&(Nat.beq e.on i||(Nat.blt i e.on&&(match ev[e.on]? with
  | some u=>!sy u.gZ i
  | none=>false)))
def n4(ev:List OT):Nat->List Oper->List OT->Bool
 | _,[],_=>true
 | j,o::r,t::tr=>(List.range j).all (fun i=>sy t.gZ i||DP ev o i)&&n4 ev (j+1) r tr
 | _,_::_,[]=>false
def sL(d:Option Nat)(ts:List Nat):Bool:=
 match d with
 | none=>true
 | some d=>!sy ts d
def HF(d d':Option Nat):Bool:=
 match d,d' with
 | some d,some d'=>!Nat.beq d d'
 | _,_=>true
def uF(ops:List Oper)(ev:List OT)(o:Oper)(t:OT):List Nat->Bool
 | []=>true
 | i::r=>(match ops[i]?,ev[i]? with
  | some p,some u=>sL p.dst t.ts&&sL o.dst u.ts&&HF p.dst o.dst
  | _,_=>false)&&uF ops ev o t r
def qC(ops:List Oper)(ev:List OT):List Oper->List OT->Bool
 | [],_=>true
 | o::r,t::tr=>uF ops ev o t t.gZ&&qC ops ev r tr
 | _::_,[]=>false
def gn(ops:List Oper)(rt:RT):Bool:=
 Nat.beq ops.length rt.ev.length&&mn 0 ops&&n4 rt.ev 0 ops rt.ev&&qC ops rt.ev ops rt.ev&&rt.made.all fun d=>Nat.blt d 500000
theorem eO:∀ {l:List Oper} {i:Nat},mn i l=true -> ∀ (j:Nat) (o:Oper),l[j]?=some o -> ∀ e∈o.after,Region.binds .any e=true->e.on<i+j
 | [],_,_,j,o,ho,_,_,_=>by simp at ho
 | x::l,i,h,j,o,ho,e,he,hb=>by
  simp only[mn,Bool.and_eq_true,List.all_eq_true]at h
  cases j with
  | zero=>
   simp only[List.getElem?_cons_zero,Option.some.injEq]at ho;subst ho;have:=h.1 e (by simpa using he);simp only[hb,Bool.not_true,Bool.false_or]at this;exact Nat.le_of_ble_eq_true this
  | succ j=>
   have:=eO h.2 j o (by simpa using ho) e he hb;omega
theorem ml{ev:List OT}:∀ {l:List Oper} {tr:List OT} {k:Nat},n4 ev k l tr=true -> ∀ (j:Nat) (o:Oper) (t:OT),l[j]?=some o->tr[j]?=some t -> ∀ i,i<k+j->i∈t.gZ \/
  ∃ e∈o.after,Region.binds .any e=true/\(e.on=i\/i<e.on /\ ∃ u,ev[e.on]?=some u/\i∉u.gZ)
 | [],_,_,_,j,o,t,ho,_,_,_=>by simp at ho
 | _::_,[],_,h,j,o,t,_,ht,_,_=>by simp at ht
 | x::l,y::tr,k,h,j,o,t,ho,ht,i,hi=>by
  simp only[n4,Bool.and_eq_true,List.all_eq_true]at h
  cases j with
  | zero=>
   simp only[List.getElem?_cons_zero,Option.some.injEq]at ho ht;subst ho;subst ht;have:=h.1 i (by simpa using hi);rw[Bool.or_eq_true]at this;rcases this with h1|h1
   ·exact .inl (fW.1 h1)
   ·right
    simp only[DP,List.any_eq_true,Bool.and_eq_true,Bool.or_eq_true]at h1;obtain⟨e,he,hb,GL⟩:=h1;refine⟨e,by simpa using he,hb,?_⟩;rcases GL with h2|⟨h2,h3⟩
    ·exact .inl (Nat.eq_of_beq_eq_true h2)
    ·right
     refine⟨Nat.le_of_ble_eq_true h2,?_⟩;split at h3
     ·rename_i u hu
      refine⟨u,hu,fun hm=>?_⟩;rw[fW.2 hm]at h3;cases h3
     ·cases h3
  | succ j=>exact ml h.2 j o t (by simpa using ho) (by simpa using ht) i (by omega)
theorem r5{ops:List Oper}{ev:List OT}{o:Oper}{t:OT}:∀ {l:List Nat},uF ops ev o t l=true -> ∀ i∈l,∃ p u,ops[i]?=some p/\ev[i]?=some u/\(∀ d,p.dst=some d->d∉t.ts)/\(∀ d,o.dst=some d->d∉u.ts)/\(∀ d,p.dst=some d->o.dst≠some d)
 | [],_,i,hi=>by cases hi
 | k::r,h,i,hi=>by
  simp only[uF,Bool.and_eq_true]at h;rcases List.mem_cons.1 hi with rfl|hi
  ·have h1:=h.1
   split at h1;case h_2=>cases h1
   rename_i p u hp hu;simp only[Bool.and_eq_true]at h1;obtain⟨⟨h2,h3⟩,h4⟩:=h1;refine⟨p,u,hp,hu,fun d hd hm=>?_,fun d hd hm=>?_,fun d hd he=>?_⟩
   ·rw[hd]at h2;simp[sL,fW.2 hm]at h2
   ·rw[hd]at h3;simp[sL,fW.2 hm]at h3
   ·rw[hd,he]at h4;simp[HF]at h4
  ·exact r5 h.2 i hi
theorem qD{ops:List Oper}{ev:List OT}:∀ {l:List Oper} {tr:List OT},qC ops ev l tr=true -> ∀ (j:Nat) (o:Oper) (t:OT),l[j]?=some o->tr[j]?=some t->uF ops ev o t t.gZ=true
 | [],_,_,j,o,t,ho,_=>by simp at ho
 | _::_,[],h,j,o,t,_,ht=>by simp at ht
 | x::l,y::tr,h,j,o,t,ho,ht=>by
  simp only[qC,Bool.and_eq_true]at h
  cases j with
  | zero=>
   simp only[List.getElem?_cons_zero,Option.some.injEq]at ho ht;subst ho;subst ht;exact h.1
  | succ j=>exact qD h.2 j o t (by simpa using ho) (by simpa using ht)
theorem iz{aT:Array Bool}{i:Nat}(hi:i<aT.size)(h:aT.getD i true≠false):aT.getD i false=true:=by
 simp only[Array.getD_eq_getD_getElem?]at h ⊢;rw[Array.getElem?_eq_getElem hi]at h ⊢;simpa using h
theorem fU{aT:Array Bool}{i:Nat}(h:aT.getD i false=true):aT.getD i true=true:=by
 simp only[Array.getD_eq_getD_getElem?]at h ⊢
 cases hi:aT[i]? with
 | none=>rw[hi]at h;cases h
 | some b=>rw[hi]at h;simpa using h
structure DN(ops:Array Oper)(l:List Rec)(aT:Array Bool):Prop where
 mem:∀ i,(∃ q∈l,q.idx=i)↔aT.getD i true=false
 size:aT.size=ops.size
 closed:∀ (j:Nat) (o:Oper),aT.getD j false=true->ops[j]?=some o -> ∀ e∈o.after,Region.binds .any e=true->aT.getD e.on false=true
structure Rs(P:Program)(ops:Array Oper)(ev:List OT)(l:List Rec):Prop where
 pw:l.Pairwise Pr
 snd:∀ q∈l,rG P ops q
 news:∀ q∈l,cE q.ws=true
 gZ:∀ q∈l,∃ t,ev[q.idx]?=some t/\q.gZ=t.gZ
theorem DN.ahead{ops:Array Oper}{l:List Rec}{aT:Array Bool}(h:DN ops l aT){ev:List OT}(hb:mn 0 ops.toList=true)(hA:n4 ev 0 ops.toList ev=true)(hlen:ops.toList.length=ev.length) :
  ∀ (n j:Nat) (o:Oper) (t:OT),j<n->ops[j]?=some o->ev[j]?=some t->(∀ e∈o.after,Region.binds .any e=true->aT.getD e.on false=true) -> ∀ i,i<j->i∉t.gZ->aT.getD i false=true
 | 0,_,_,_,hj,_,_,_,_,_,_=>by omega
 | n+1,j,o,t,hj,ho,ht,hl,i,hi,hn=>by
  rcases ml hA j o t (by simpa using ho) ht i (by omega) with h1|⟨e,he,xU,GL⟩
  ·exact absurd h1 hn
  have eC:=eO hb j o (by simpa using ho) e he xU;rcases GL with rfl|⟨CU,u,hu,JS⟩
  ·exact hl e he xU
  ·have HT:j<ops.size:=(Array.getElem?_eq_some_iff.1 ho).1
   have mQ:ops[e.on]?=some ops[e.on]:=Array.getElem?_eq_getElem (by omega);exact DN.ahead h hb hA hlen n e.on _ u (by omega) mQ hu (h.closed e.on _ (hl e he xU) mQ) i CU JS
section
variable {P : Program} {σ : Type} {cx : Cx σ} {r : Option Nat} {m : List Nat}
theorem Dz(sr:oO P cx){ops:Array Oper}{rt:RT}(kX:gn ops.toList rt=true){Q:Exit->Act->World->Prop}{f':Fs}{s:σ}{n0:Nat}{F0:Nat->Nat}{w0:World}
  (hd:∀ o∈ops.toList,∀ d,o.dst=some d->d<n0)
  (hQ:∀ a w L F (st:St σ),bW st=f'->st.s=s->Good cx r m L F st a w->Tr F0 w0 F w->a.tmps.size=n0->Q .normal a w) :
  ∀ (fuel:Nat) {l:List Rec} {aT:Array Bool} {st:St σ} {a:Act} {w:World} {L:Loc} {F:Nat->Nat},
  Rs P ops rt.ev l->Good cx r m L F st a w->st.s=s->Tr F0 w0 F w->a.tmps.size=n0->(∀ q∈l,∀ id∈bB q.ws,ot (bW st) id)->mJ l (bW st) f'->l.length<=fuel->DN ops l aT ->
  wpAnyIn (fr r) 0 P .any ops Q fuel aT a w:=by
 simp only[gn,Bool.and_eq_true]at kX;obtain⟨⟨⟨⟨hlen,gz⟩,jd⟩,je⟩,nh⟩:=kX;have hlen:=Nat.eq_of_beq_eq_true hlen;have I8:∀ {l:List Rec} {aT:Array Bool},l.Pairwise Pr->DN ops l aT->Region.ready .any ops aT = []->l = []:=by
  intro l aT hp ht hr
  cases l with
  | nil=>rfl
  | cons q l=>
   exfalso;have hi:=(ht.mem q.idx).1 ⟨q,List.mem_cons_self ..,rfl⟩;have Ng:q.idx<ops.size:=by
    rcases Nat.lt_or_ge q.idx aT.size with h|h
    ·rw[<- ht.size];exact h
    ·simp[Array.getD_eq_getD_getElem?,Array.getElem?_eq_none h]at hi
   have e6:q.idx∈Region.ready .any ops aT:=by
    rw[mem_ready];refine⟨hi,ops[q.idx],Array.getElem?_eq_getElem Ng,fun e he hb=>?_⟩;have eC:=eO gz q.idx ops[q.idx] (by simp) e he hb;refine iz (by rw[ht.size];omega) fun hf=>?_;obtain⟨q',BJ,HP⟩:=(ht.mem e.on).2 hf;rcases List.mem_cons.1 BJ with h|h
    ·subst h;omega
    ·have:=((List.pairwise_cons.1 hp).1 _ h).lt
     omega
   rw[hr]at e6;cases e6
 intro fuel
 induction fuel with
 | zero=>
  intro l aT st a w L F nX hg hs tr hn hu bA hle ht;have hl:l = []:=List.length_eq_zero_iff.1 (by omega);subst hl;have bA:f'=bW st:=bA;refine⟨?_,hQ a w L F st bA.symm hs hg tr hn⟩
  cases hr:Region.ready .any ops aT with
  | nil=>rfl
  | cons i _=>
   have:i∈Region.ready .any ops aT:=by rw[hr];exact List.mem_cons_self ..
   obtain⟨q,hq,_⟩:=(ht.mem i).2 (mem_ready.1 this).1;cases hq
 | succ fuel ih=>
  intro l aT st a w L F nX hg hs tr hn hu bA hle ht;refine⟨fun hr=>?_,fun j hj=>?_⟩
  ·have hl:=I8 nX.pw ht hr
   subst hl;have bA:f'=bW st:=bA;exact hQ a w L F st bA.symm hs hg tr hn
  ·obtain⟨EF,oj,sU,gl⟩:=mem_ready.1 hj
   obtain⟨q,hq,rfl⟩:=(ht.mem j).2 EF;obtain⟨l1,l2,rfl⟩:=List.append_of_mem hq;have mR:=List.pairwise_append.1 nX.pw;obtain⟨t,LO,LN⟩:=nX.gZ q hq;have dB:∀ p∈l1,Cf p q:=by
    intro p hp;have FW:=mR.2.2 p hp q (List.mem_cons_self ..);refine FW.free (Classical.byContradiction fun wa=>?_);rw[LN]at wa;have:=ht.ahead gz jd hlen (q.idx+1) q.idx oj t (by omega) sU LO gl p.idx FW.lt wa;have h3:=fU this;rw[(ht.mem p.idx).1 ⟨p,List.mem_append_left _ hp,rfl⟩]at h3;cases h3
   obtain⟨gY,fe⟩:=mJ.front dB bA;have I4:=nX.news q hq;have rS:bW (aK st q.ws)=bz (bW st) q.ws:=sP q.ws st I4 (hu q hq);refine nX.snd q hq cx sr r m L F st a w gY.1 gY.2 hg (fun o ho k hk=>?_) _ _ fun a' L' F' w' cU dY lL=>?_
   ·rw[hn]
    exact hd o (by simpa using Array.mem_of_getElem? ho) k hk
   ·have e6:∀ p,p∈l1++l2->p∈l1++q::l2:=fun p hp=>by
     rcases List.mem_append.1 hp with h|h
     ·exact List.mem_append_left _ h
     ·exact List.mem_append_right _ (List.mem_cons_of_mem _ h)
    have eA:∀ p∈l1++l2,p.idx≠q.idx:=by
     intro p hp;rcases List.mem_append.1 hp with h|h
     ·have:=(mR.2.2 p h q (List.mem_cons_self ..)).lt;omega
     ·have:=((List.pairwise_cons.1 mR.2.1).1 p h).lt;omega
    refine ih (l:=l1++l2) ⟨?_,fun p hp=>nX.snd p (e6 p hp),fun p hp=>nX.news p (e6 p hp),fun p hp=>nX.gZ p (e6 p hp)⟩ dY ((cT _ _).trans hs) (Tr.trans tr lL) (cU.trans hn) ?_ (by rw[rS];exact fe) (by simp at hle ⊢;omega) ⟨fun i=>?_,?_,?_⟩
    ·exact List.pairwise_append.2 ⟨mR.1,(List.pairwise_cons.1 mR.2.1).2,fun x hx y hy=>mR.2.2 x hx y (List.mem_cons_of_mem _ hy)⟩
    ·intro p hp id dZ
     rw[rS];refine(hu p (e6 p hp) id dZ).bz ?_ ?_
     ·rcases List.mem_append.1 hp with h|h
      ·exact(dB p h).l.news id dZ
      ·exact((List.pairwise_cons.1 mR.2.1).1 p h).names id dZ
     ·rcases List.mem_append.1 hp with h|h
      ·exact(dB p h).l.y5 id (fI dZ)
      ·exact((List.pairwise_cons.1 mR.2.1).1 p h).y5 id dZ
    ·by_cases jN:q.idx=i
     ·subst jN
      have eC:q.idx<aT.size:=by rw[ht.size];exact(Array.getElem?_eq_some_iff.1 sU).1
      constructor
      ·rintro ⟨p,hp,he⟩;exact absurd he (eA p hp)
      ·intro h;simp[eC]at h
     ·rw[getD_set_ne true jN,<- ht.mem i]
      constructor
      ·rintro ⟨p,hp,he⟩;exact⟨p,e6 p hp,he⟩
      ·rintro ⟨p,hp,he⟩
       refine⟨p,?_,he⟩;rcases List.mem_append.1 hp with h|h
       ·exact List.mem_append_left _ h
       ·rcases List.mem_cons.1 h with rfl|h
        ·exact absurd he jN
        ·exact List.mem_append_right _ h
    ·rw[Array.size_setIfInBounds];exact ht.size
    ·intro k o' hk xp e he hb
     by_cases yB:q.idx=k
     ·subst yB
      rw[sU]at xp;cases xp;exact getD_set_true (gl e he hb)
     ·rw[getD_set_ne false yB]at hk
      exact getD_set_true (ht.closed k o' hk xp e he hb)
end
end Go.PX
