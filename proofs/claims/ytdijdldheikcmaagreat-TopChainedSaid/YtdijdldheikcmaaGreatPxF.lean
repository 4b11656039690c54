import Derived.Test.YtdijdldheikcmaaGreatPxE
import Derived.OrdersIn
import Derived.Scope
set_option linter.all false
namespace Go.PX
open Go.RowKit
theorem vI(v:V)(K:V->Prop):xk v K=K v:=by cases v<;>rfl
theorem CK(v:Obj)(K:Obj->Prop):Ar v K=K v:=by
 match v with
 | .box (.dd l)=>exact tp l _
 | .box (.vv l)=>exact oH l _
 | .arr _ (.dd _)=>rfl
 | .arr _ (.vv _)=>rfl
 | .map _=>rfl
 | .iter _ _=>rfl
 | .buf _ _=>rfl
 | .tb _ l=>exact oH l _
 | .mit v n l u=>exact vI v fun v=>K (.mit v n l u)
theorem fX:∀ (l:Env) (K:Env->Prop),dX l K=K l
 | [],K=>rfl
 | (k,v)::r,K=>by
  show xk v (fun v=>dX r fun r=>K ((k,v)::r))=_;rw[vI,fX r]
theorem fY:∀ (l:ar) (K:ar->Prop),fw l K=K l
 | [],K=>rfl
 | (k,v)::r,K=>by
  show Ar v (fun v=>fw r fun r=>K ((k,v)::r))=_;rw[CK,fY r]
theorem kT:∀ (l:List Nat) (K:List Nat->Prop),cY l K=K l
 | [],K=>rfl
 | n::r,K=>by
  show cY r (fun r=>K (n::r))=_;rw[kT r]
theorem cJ{σ:Type}:∀ (ws:List Wr) (st:St σ),(aH st ws).s=st.s
 | [],_=>rfl
 | w::r,st=>by
  rw[aH,cJ r];cases w<;>rfl
theorem cd{σ:Type}(s:σ):∀ (ws:List Wr) (e:Env) (h:ar) (K:Env->ar->Prop),a7 ws e h K=K (aH (⟨e,h,s⟩:St σ) ws).env (aH (⟨e,h,s⟩:St σ) ws).heap
 | [],e,h,K=>rfl
 | w::r,e,h,K=>by
  cases w with
  | set t v=>show dX (put e t v) (fun e'=>a7 r e' h K)=_;rw[fX,cd s r];rfl
  | obj id o=>show fw (put h id o) (fun h'=>a7 r e h' K)=_;rw[fY,cd s r];rfl
  | new id o=>
   show dX (cj (aB (aU id)) e) (fun e'=>fw ((id,o)::cj (Obj.aB (aU id)) (cut h id)) fun h'=>a7 r e' h' K)=_;rw[fX,fY,cd s r];rfl
  | newq id o=>show fw ((id,o)::h) (fun h'=>a7 r e h' K)=_;rw[fY,cd s r];rfl
  | del id=>show fw (cut h id) (fun h'=>a7 r e h' K)=_;rw[fY,cd s r];rfl
section
variable {P : Program} {T : dJ} {e : Env} {h : ar} {dst : Option Nat} {K : List Wr -> Prop} {ty : TypeId} {pos : String} {after : Array Edge} {guard : Option (Nat × Bool)}
theorem xH(hT:aY P T){op:Op}(hk:eS T e h dst op K):∃ ws,K ws/\Out P e h ⟨dst,op,ty,pos,after,guard⟩ ws:=by
 cases op;case move=>exact Fq hk
 case assign=>exact AV hk
 case pick=>exact Fu hk
 case alloc=>exact Dd hT hk
 case box=>exact HB hk
 case build=>exact Df hT hk
 case buildSlice=>exact uh hT hk
 case load=>exact Fp hT hk
 case store=>exact Dl hT hk
 case nilCheck=>exact xK hk
 case binOp=>exact De hT hk
 case unOp=>exact Fv hk
 case convert=>exact zt hT hk
 case makeFunc=>exact xI hk
 case fieldAddr=>exact vc hT hk
 case field=>exact Dh hT hk
 case indexAddr=>exact vd hT hk
 case index=>exact Di hT hk
 case slice=>exact Dk hT hk
 case extract=>exact zu hk
 case range=>exact Dj hT hk
 case makeInterface=>exact qk hT hk
 case entry=>exact Dg hk
 case typeAssert=>exact um hT hk
 case next=>exact Ft hk
 case makeMap=>exact zw hk
 case makeSlice=>exact ve hT hk
 case lookup=>exact AX hT hk
 case mapUpdate=>exact vf hT hk
 case insert=>exact AW hT hk
 case mapEntry=>exact xJ hT hk
 case entryStore=>exact uj hT hk
 all_goals exact(show False from hk).elim
theorem pC(hT:aY P T){b:Builtin}{args:Array Operand}{tys:Array TypeId}(hk:dy T e h dst b args tys K):∃ ws,K ws/\Out P e h ⟨dst,.call ⟨.builtin b,args,tys⟩,ty,pos,after,guard⟩ ws:=by
 cases b;case len=>exact HD hT hk
 case min=>exact HF hk
 case max=>exact HE hk
 case append=>exact AU hT hk
 case copy=>exact Fo hT hk
 all_goals exact(show False from hk).elim
end
section
variable {P : Program} {T : dJ} {σ : Type} {Y : Hd σ} {cx : Cx σ} {r : Option Nat} {m : List Nat} {L : Loc} {F : Nat -> Nat} {a : Act} {w : World}
theorem Ez{ops:Array Oper}{e:Env}{h:ar}{s:σ}{guard:Option (Nat×Bool)}{X Z:List Wr->Prop}(hk:lO ops.toList e guard X Z){dst:Option Nat}{op:Op}{ty:TypeId}{pos:String}{after:Array Edge}
  {st:St σ} (he:cP e st.env) (hg:Good cx r m L F st a w) :
  ∃ ws,((Region.wanted ⟨dst,op,ty,pos,after,guard⟩ (yielded ops a.tmps)=true/\X ws)\/(Region.wanted ⟨dst,op,ty,pos,after,guard⟩ (yielded ops a.tmps)=false/\Z ws)) /\
   (ws = [] \/ ∃ d v,ws = [.set d v]/\get e d=some v):=by
 unfold lO at hk;unfold Region.wanted;split at hk
 ·exact⟨[],.inl ⟨rfl,hk⟩,.inl rfl⟩
 ·rename_i j Li
  split at hk;case h_2=>exact hk.elim
  rename_i d _ _ _ _ _ hj;have yQ:(ops[j]?).bind (·.dst)=some d:=by
   rw[Array.getElem?_toList]at hj;rw[hj];rfl
  split at hk
  ·rename_i b hb
   obtain⟨x,hx,hr⟩:=hg.env d _ (he _ _ hb);have hr:x = .bool b:=hr;subst hr;have hy:yielded ops a.tmps j=some b:=by
    unfold yielded;rw[yQ];simp[hx]
   split at hk
   ·rcases s8 hk with⟨rfl,hk⟩|⟨rfl,hk⟩
    ·exact⟨_,.inl ⟨by simp[hy],hk⟩,.inr ⟨d,_,rfl,hb⟩⟩
    ·exact⟨_,.inr ⟨by simp[hy],hk⟩,.inr ⟨d,_,rfl,hb⟩⟩
   ·rcases s8 hk with⟨rfl,hk⟩|⟨rfl,hk⟩
    ·exact⟨_,.inr ⟨by simp[hy],hk⟩,.inr ⟨d,_,rfl,hb⟩⟩
    ·exact⟨_,.inl ⟨by simp[hy],hk⟩,.inr ⟨d,_,rfl,hb⟩⟩
  ·rename_i hb
   obtain⟨x,hx,l,rfl,hl⟩:=hg.env d _ (he _ _ hb);have hy:yielded ops a.tmps j=none:=by
    unfold yielded;rw[yQ];simp[hx]
   exact⟨[],.inr ⟨by simp[hy],hk⟩,.inl rfl⟩
  ·exact hk.elim
theorem Good.OM{e:Env}{h:ar}{s:σ}(hg:Good cx r m L F ⟨e,h,s⟩ a w){ws:List Wr}(hw:ws = [] \/ ∃ d v,ws = [.set d v]/\get e d=some v) :
  Good cx r m L F (aH (⟨e,h,s⟩:St σ) ws) a w/\(aH (⟨e,h,s⟩:St σ) ws).heap=h:=by
 rcases hw with rfl|⟨d,v,rfl,hv⟩
 ·exact⟨hg,rfl⟩
 ·refine⟨hg.sub (e:=put e d v) (h:=h) (fun t u hu=>?_) (fun _ _ h=>h),rfl⟩
  rw[dt]at hu;split at hu
  ·rename_i e1;subst e1;cases hu;exact hv
  ·exact hu
theorem dG{d:Option Nat}(x:Value):(a.put d x).tmps.size=a.tmps.size:=by
 cases d<;>simp[Act.put]
theorem g7{n:Nat}{f:FuncId}{vs:Array Value}{R:Ending->World->Prop}(h:CallsIn Fence.wide n P f vs w R):CallsIn (fr r) n P f vs w R:=h
theorem A4{n:Nat}{l:Nat}{f:FuncId}{tmps:Array Value}{x8 body:Code}{R:Ending->World->Prop}(h:RoundIn Fence.wide n P l f tmps x8 body w R):RoundIn (fr r) n P l f tmps x8 body w R:=h
def Bt(cx:Cx σ)(r:Option Nat)(m:List Nat)(F:Nat->Nat)(w:World)(n:Nat)(K:Env->ar->σ->Prop):Exit->Act->World->Prop:=fun ex a' w'=>
 ∃ e' h' s' L' F',ex = .normal/\K e' h' s'/\Good cx r m L' F' ⟨e',h',s'⟩ a' w'/\Tr F w F' w'/\a'.tmps.size=n
def sP(Y:Hd σ)(cx:Cx σ)(r:Option Nat)(m:List Nat)(F:Nat->Nat)(w:World)(n:Nat)(K:Env->ar->σ->Prop):Exit->Act->World->Prop:=fun ex a' w'=>
 Bt cx r m F w n K ex a' w'\/ox Y cx r F w n ex a' w'
theorem zy{e:Env}{h:ar}{o:Oper}{ws:List Wr}(ho:Out P e h o ws){st:St σ}(he:cP e st.env)(hh:cP h st.heap)(hg:Good cx r m L F st a w)(hd:∀ k,o.dst=some k->k<a.tmps.size)
  (vR:∀ c,o.op ≠ .defer c) {next:Act->World->Prop} {Q:Exit->Act->World->Prop} (hn:∀ x L' F' w',Good cx r m L' F' (aH st ws) (a.put o.dst x) w'->Tr F w F' w'->next (a.put o.dst x) w') :
  o.wpIn (fr r) 0 P a w next Q:=by
 obtain⟨x,w',nx,bp,hx,L',F',eR,tr⟩:=ho cx r m L F st a w he hh hg hd;refine⟨fun _ _=>trivial,?_⟩;rw[Oper.semAt_eq _ _ _ vR,bp];rcases hx with rfl|⟨rfl,rfl⟩
 ·exact hn x L' F' w' eR tr
 ·exact hn undef L' F' w' eR tr
theorem FR{dst:Option Nat}{op:Op}{e:Env}{h:ar}{s:σ}{go:Env->ar->σ->Prop}(hc:∀ c,op ≠ .call c)(hb:∀ b t x y ty,op ≠ .binOp b t x y ty)(hn:∀ x,op ≠ .next x false)(hp:∀ x,op ≠ .panic x) :
  Ci P T Y dst op e h s go=eS T e h dst op (fun ws=>a7 ws e h fun e h=>go e h s):=by
 cases op;case next x b=>
  cases b
  ·exact absurd rfl (hn _)
  ·rfl
 all_goals first|rfl|exact absurd rfl (hc _)|exact absurd rfl (hb _ _ _ _ _)|exact absurd rfl (hp _)
theorem Ff(hT:aY P T){e:Env}{op:BinOp}{t:TypeId}{x y:Operand}{neg:Bool}{ne:Prop}(hk:xF T e op t x y=some (neg,ne)){st:St σ}(he:cP e st.env)(hg:Good cx r m L F st a w){dst:Option Nat}{ty ty':TypeId}{pos:String}{after:Array Edge}{guard:Option (Nat×Bool)} :
  ∃ b:Bool,(ne->b=false)/\(execOp a.eval ⟨dst,.binOp op t x y ty',ty,pos,after,guard⟩).run P w = .ok (.value (.bool (wF neg b))) w:=by
 have DM:∀ {x:Value},isSlice T t=true -> ∃ el,P.underlying t=some (.slice el):=by
  intro _ h;unfold isSlice at h;split at h
  ·rename_i ti ht
   split at h
   ·rename_i el da
    obtain⟨de,fq,dv⟩:=dC hT ht;rw[da]at dv;exact⟨el,by rw[fq,dL dv.symm]⟩
   ·cases h
  ·cases h
 have bp:∀ (u:Option Addr) (l c:Nat) (el:TypeId),P.underlying t=some (.slice el)->a.eval x = .slice u l c->y = .const (.slice none 0 0) ->
   ((op = .eql->(execOp a.eval ⟨dst,.binOp op t x y ty',ty,pos,after,guard⟩).run P w = .ok (.value (.bool u.isNone)) w)/\(op = .neq->(execOp a.eval ⟨dst,.binOp op t x y ty',ty,pos,after,guard⟩).run P w = .ok (.value (.bool (!u.isNone))) w)):=by
  intro u l c el hu hx hy;subst hy;have VW:a.eval (.const (.slice none 0 0)) = .slice none 0 0:=rfl;have hq:(Op.equal t (.slice u l c) (.slice none 0 0)).run P w = .ok u.isNone w:=by
   rw[Op.equal,show Op.maxDepth=9999+1 from rfl,Op.equalIn];cases u<;>simp[run_underlying hu]
  refine⟨fun ho=>?_,fun ho=>?_⟩<;>subst ho<;>simp[execOp,hx,VW,eqGuard,binOp,hq]
 have Lz:∀ {es:List (List D)},aD e x=some (.d (.vs es)) -> ∃ u l c,a.eval x = .slice u l c/\(es ≠ []->u.isNone=false):=by
  intro es hx;obtain⟨u,l,c,h1,h2,h3,h4⟩:=hg.aD (az he hx);refine⟨u,l,c,h1,fun eX=>?_⟩;obtain⟨b,off,sz,h5,_⟩:=h4 eX;rw[h5];rfl
 have Oy:∀ {id sz off n:Nat},aD e x=some (.sl id sz off n) -> ∃ u l c,a.eval x = .slice u l c/\(0<n->u.isNone=false):=by
  intro id sz off n hx;obtain⟨u,c,h1,h2,h3,h4⟩:=hg.aD (az he hx);refine⟨u,n,c,h1,fun hn=>?_⟩;rcases h4 with⟨h4,_⟩|⟨h4,_⟩
  ·omega
  ·rw[h4];rfl
 unfold xF at hk;split at hk
 ·rename_i hs hx
  cases hk;obtain⟨el,hu⟩:=DM (x:=undef) hs;obtain⟨u,l,c,h1,h2⟩:=Lz hx;exact⟨u.isNone,h2,(bp u l c el hu h1 rfl).1 rfl⟩
 ·rename_i hs hx
  cases hk;obtain⟨el,hu⟩:=DM (x:=undef) hs;obtain⟨u,l,c,h1,h2⟩:=Lz hx;exact⟨u.isNone,h2,(bp u l c el hu h1 rfl).2 rfl⟩
 ·rename_i hs hx
  cases hk;obtain⟨el,hu⟩:=DM (x:=undef) hs;obtain⟨u,l,c,h1,h2⟩:=Oy hx;exact⟨u.isNone,h2,(bp u l c el hu h1 rfl).1 rfl⟩
 ·rename_i hs hx
  cases hk;obtain⟨el,hu⟩:=DM (x:=undef) hs;obtain⟨u,l,c,h1,h2⟩:=Oy hx;exact⟨u.isNone,h2,(bp u l c el hu h1 rfl).2 rfl⟩
 ·rename_i hs hx
  cases hk;obtain⟨el,hu⟩:=DM (x:=undef) hs;have h1:a.eval x = .slice none 0 0:=hg.aD (az he hx);exact⟨false,fun _=>rfl,(bp none 0 0 el hu h1 rfl).1 rfl⟩
 ·rename_i hs hx
  cases hk;obtain⟨el,hu⟩:=DM (x:=undef) hs;have h1:a.eval x = .slice none 0 0:=hg.aD (az he hx);exact⟨false,fun _=>rfl,(bp none 0 0 el hu h1 rfl).2 rfl⟩
 ·cases hk
theorem Cg{t:TypeId}{n:String}{g:FuncId}(hm:∀ v w,(method (P.types.size+Made.depth) t v n).run P w = .ok (g,v) w)(nL:∀ (vs:Array Value) (w:World),(callFunc g vs).run P w = .ok (.enter g vs) w){a:Act}{f:Operand}{y:Value}(cF:a.eval f = .iface t y){w:World}
  {dst:Option Nat} {args:Array Operand} {tys:Array TypeId} {ty:TypeId} {pos:String} {after:Array Edge} {guard:Option (Nat×Bool)} :
  (execOp a.eval ⟨dst,.call ⟨.invoke f n,args,tys⟩,ty,pos,after,guard⟩).run P w = .ok (.enter g (#[y]++args.map a.eval)) w:=by
 have hx:(#[a.eval f]++args.map a.eval).extract 1 (#[a.eval f]++args.map a.eval).size=args.map a.eval:=by
  apply Array.ext';simp only[Array.toList_extract,Array.toList_append,Array.toList_map,Array.size_append,Array.size_map];simp[List.extract];rw[List.take_of_length_le (by simp)]
 have h0:(#[a.eval f]++args.map a.eval)[0]?=some (.iface t y):=by
  rw[<- cF,Array.getElem?_append_left (by simp)];rfl
 simp only[execOp,resolve,Sem.run_bind,Sem.run_pure,Result.andThen_ok,invoke,h0,hx,callMethod];simp[program,Sem.run,Sem.run_bind,hm,nL]
theorem y9{e:Env}{h:ar}{s:σ}{cx:Cx σ}{r:Option Nat}{m:List Nat}{L:Loc}{F:Nat->Nat}{a:Act}{w:World}(hg:Good cx r m L F ⟨e,h,s⟩ a w){args:Array Operand}{l':List V}(hl:cI e args.toList=some l'){v:D}{y:Value}(hv:bq F w v y) :
  ak cx.yv L F w (.d v::l') (#[y]++args.map a.eval).toList:=by
 refine⟨y,args.toList.map a.eval,by simp,hv,hg.cI hl⟩
theorem zF{w:World}{rv:Nat}{m:Nat}{n:Nat}{seen:Array Nat}{en:Array MapEntry}{c:Nat}{ty:TypeId}(hr:w.heap[rv]?=some (.mapIter (some m) n seen n))(hm:w.heap[m]?=some (.map en c))(hb:pk en c)(hn:en.size=n) :
  ((∀ i,i<n->seen.contains i=true)/\(∃ d,(Instr.next (.pointer (some ⟨rv,0,none⟩)) false ty).run P w = .ok (.tuple #[.bool false]) { w with drawn:=d })) \/
  (∃ (i:Nat) (e:MapEntry) (d:Nat),i<n/\seen.contains i=false/\en[i]?=some e/\(Instr.next (.pointer (some ⟨rv,0,none⟩)) false ty).run P w = .ok (.tuple #[.bool true,e.key,e.val]) { w with drawn:=d,heap:=w.heap.setIfInBounds rv (.mapIter (some m) n (seen.push i) n) }):=by
 have SU:c=n:=by rw[hb.1,hn]
 subst SU;have yO:∀ (i:Nat) (e:MapEntry),en[i]?=some e->e.born=i:=hb.2;have r8:(!seen.isEmpty && !en.isEmpty&&en.all (·.born≥c))=false:=by
  by_cases he:en.size=0
  ·have:en = #[]:=Array.eq_empty_of_size_eq_zero he
   subst this;simp
  ·have h0:en[0]?=some en[0]:=Array.getElem?_eq_getElem (by omega)
   have rE:=yO 0 _ h0;have:en.all (·.born≥c)=false:=by
    rw[Array.all_eq_false];exact⟨0,by omega,by rw[rE];simp;omega⟩
   simp[this]
 have pW:((en.filter fun e=>!seen.contains e.born).filter (·.born≥c)) = #[]:=by
  rw[Array.filter_eq_empty_iff];intro e he;obtain⟨he,_⟩:=Array.mem_filter.1 he;obtain⟨i,hi,rfl⟩:=Array.mem_iff_getElem.1 he;have:=yO i _ (Array.getElem?_eq_getElem hi);simp[this];omega
 have hold:((en.filter fun e=>!seen.contains e.born).filter (·.born<c))=en.filter fun e=>!seen.contains e.born:=by
  rw[Array.filter_eq_self];intro e he;obtain⟨he,_⟩:=Array.mem_filter.1 he;obtain⟨i,hi,rfl⟩:=Array.mem_iff_getElem.1 he;have:=yO i _ (Array.getElem?_eq_getElem hi);simp[this];omega
 generalize j7:(en.filter fun e=>!seen.contains e.born)=left at pW hold;by_cases hz:left = #[]
 ·left
  refine⟨fun i hi=>?_,w.drawn,?_⟩
  ·have he:en[i]?=some en[i]:=Array.getElem?_eq_getElem (by omega)
   have nZ:=yO i _ he
   cases hs:seen.contains i with
   | true=>rfl
   | false=>
    exfalso;have:en[i]∈en.filter fun e=>!seen.contains e.born:=Array.mem_filter.2 ⟨Array.getElem_mem _,by rw[nZ,hs];rfl⟩;rw[j7,hz]at this;simp at this
  ·simp only[Instr.next,getObj,Sem.run_bind,Sem.run,hr,Result.andThen,hm]
   simp only[r8,j7,hold,pW];subst hz;simp[choose,Sem.run,Sem.run_bind,Question.forced]
 ·right
  have yX:0<left.size:=Nat.pos_of_ne_zero fun h=>hz (Array.eq_empty_of_size_eq_zero h);have CR:left.isEmpty=false:=by
   rw[Array.isEmpty_eq_false_iff];exact hz
  have pick:∀ (j d:Nat),j<left.size -> ∃ (i:Nat) (e:MapEntry),i<c/\seen.contains i=false/\en[i]?=some e/\left[j]?=some e/\e.born=i:=by
   intro j d hj;have hG:left[j]∈(en.filter fun e=>!seen.contains e.born):=by rw[j7];exact Array.getElem_mem _
   obtain⟨hG,hs⟩:=Array.mem_filter.1 hG;obtain⟨i,hi,he⟩:=Array.mem_iff_getElem.1 hG;have nZ:=yO i _ (Array.getElem?_eq_getElem hi);refine⟨i,en[i],by omega,?_,Array.getElem?_eq_getElem hi,?_,nZ⟩
   ·rw[<- he,nZ]at hs
    simpa using hs
   ·rw[he];exact Array.getElem?_eq_getElem hj
  have fin:∀ (j d:Nat),j<left.size->((Instr.next (.pointer (some ⟨rv,0,none⟩)) false ty).run P w=(match ((#[]:Array (Option MapEntry))++(left ++ #[]).map some)[j]? with
    | some (some e)=>(do setObj rv (.mapIter (some m) c (seen.push e.born) c);pure (.tuple #[.bool true,e.key,e.val]):Sem Value)
    | some none=>pure (.tuple #[.bool false])
    | none => stuck "Next: no such candidate").run P { w with drawn := d }) -> ∃ (i : Nat) (e : MapEntry) (d : Nat), i < c /\ seen.contains i = false /\ en[i]? = some e /\ (Instr.next (.pointer (some ⟨rv, 0, none⟩)) false ty).run P w = .ok (.tuple #[.bool true, e.key, e.val]) { w with drawn := d, heap := w.heap.setIfInBounds rv (.mapIter (some m) c (seen.push i) c) } := by
   intro j d hj bp;obtain⟨i,e,h1,h2,h3,h4,h5⟩:=pick j d hj;refine⟨i,e,d,h1,h2,h3,?_⟩;rw[bp];have:((#[]:Array (Option MapEntry))++(left ++ #[]).map some)[j]?=some (some e):=by simp[h4]
   simp only[this,h5];simp[setObj,Sem.run,Sem.run_bind,hr]
  by_cases hf:(Question.mapNext left.size).forced=true
  ·refine fin 0 w.drawn yX ?_
   simp only[Instr.next,getObj,Sem.run_bind,Sem.run,hr,Result.andThen,hm];simp only[r8,j7,hold,pW,CR];simp[choose,Sem.run,Sem.run_bind,hf];rfl
  ·refine fin (w.tape w.drawn (.mapNext left.size)%left.size) (w.drawn+1) (Nat.mod_lt _ yX) ?_
   simp only[Instr.next,getObj,Sem.run_bind,Sem.run,hr,Result.andThen,hm];simp only[r8,j7,hold,pW,CR];simp[choose,Sem.run,Sem.run_bind,hf,Question.cut];rfl
theorem AR{dst:Option Nat}{x:Operand}{ty:TypeId}{pos:String}{after:Array Edge}{guard:Option (Nat×Bool)}{e:Env}{h:ar}{s:σ}{go:Env->ar->σ->Prop}{L:Loc}{F:Nat->Nat}{a:Act}{w:World}
  (hg:Good cx r m L F ⟨e,h,s⟩ a w) (tC:∀ d,dst=some d->d<a.tmps.size) (hk:Fe dst x e h s go)
  {next:Act->World->Prop} {Q:Exit->Act->World->Prop} (ET:∀ e' h' s' L' F' a' w',Good cx r m L' F' ⟨e',h',s'⟩ a' w'->a'.tmps.size=a.tmps.size->Tr F w F' w'->go e' h' s'->next a' w') :
  Oper.wpIn (fr r) 0 P ⟨dst,.next x false,ty,pos,after,guard⟩ a w next Q:=by
 unfold Fe at hk;split at hk;case h_2=>exact hk.elim
 rename_i id hx;split at hk;case h_2=>exact hk.elim
 rename_i v n todo cur eb;split at hk;case h_2=>exact hk.elim
 rename_i bT xx;obtain⟨hn,h0,h1⟩:=hk;have cF:a.eval x = .pointer (some ⟨L.ρ id,0,none⟩):=hg.aD hx;obtain⟨rb,seen,hv,hb,E0,_⟩:=hg.heap.obj id _ eb;obtain⟨en,c,hm,hr,oJ⟩:=E8 hg (fun _ _ h=>h) xx hv;have cM:en.size=n:=by rw[<- hn];simpa using bs.get hr
 refine⟨fun _ _=>trivial,?_⟩;rw[Oper.semAt_eq _ _ _ (fun c e=>by cases e)];rcases zF (P:=P) (ty:=ty) hb hm oJ cM with⟨r8,d,bp⟩|⟨i,yA,d,hi,hs,J4,bp⟩
 ·have PR:todo = []:=by
   rw[List.eq_nil_iff_forall_not_mem];intro i hi;obtain⟨h2,h3⟩:=(E0 i).1 hi;rw[r8 i h2]at h3;cases h3
  have hk:=h0 PR;have yZ:(execOp a.eval ⟨dst,.next x false,ty,pos,after,guard⟩).run P w = .ok (.value (.tuple #[.bool false])) { w with drawn:=d }:=by simp[execOp,cF,bp]
  rw[yZ];have g9:=hg.same (w':={ w with drawn:=d }) rfl rfl rfl rfl;have lQ:=g9.aS (d:=dst) (v:=.d (.tup [.bool false])) (x:=.tuple #[.bool false]) tC ⟨_,rfl,_,_,rfl,rfl,rfl⟩;simp only at hk;rw[cd s]at hk;have sA:(aH (⟨e,h,s⟩:St σ) (aS dst (.d (.tup [.bool false])))).s=s:=cJ _ _;generalize (aH (⟨e,h,s⟩:St σ) (aS dst (.d (.tup [.bool false]))))=ri at hk lQ sA;obtain⟨e2,h2,s2⟩:=ri;simp only at hk sA;subst sA;exact ET _ _ _ _ _ _ _ lQ (dG _) (Tr.drew d) hk
 ·have eC:i∈todo:=(E0 i).2 ⟨hi,hs⟩
  obtain⟨k,u,PK,ob,TP⟩:∃ k u,bT[i]?=some (k,u)/\bq F w k yA.key/\bq F w u yA.val:=bs.at hr (by simpa using J4);have hk:=h1 i (k,u) eC PK;simp only at hk;have yZ:(execOp a.eval ⟨dst,.next x false,ty,pos,after,guard⟩).run P w = .ok (.value (.tuple #[.bool true,yA.key,yA.val])) { w with drawn:=d,heap:=w.heap.setIfInBounds (L.ρ id) (.mapIter (some rb) n (seen.push i) n) }:=by simp[execOp,cF,bp]
  rw[yZ];have g9:=hg.same (w':={ w with drawn:=d }) rfl rfl rfl rfl;have dN:=(Array.getElem?_eq_some_iff.1 hb).1;have Ig:Tr F w F { w with drawn:=d }:=Tr.drew d;have yf:Tr F w F { w with drawn:=d,heap:=w.heap.setIfInBounds (L.ρ id) (.mapIter (some rb) n (seen.push i) n) }:=by
   refine .gM rfl rfl rfl (by simp) (fun _=>Nat.le_refl _) hg.heap.fresh fun b _ hF=>?_;have:L.ρ id≠b:=by rintro rfl;have:=(hg.heap.own id _ eb trivial).1;omega
   simp[Array.getElem?_setIfInBounds_ne this]
  obtain⟨g1,g2⟩:=g9.obj (o:=.mit v n (todo.filter fun j=>!Nat.beq j i) (some i)) (id:=id) eb trivial (w':={ w with drawn:=d,heap:=w.heap.setIfInBounds (L.ρ id) (.mapIter (some rb) n (seen.push i) n) }) rfl rfl rfl (by simp) (fun y hy=>by simp[Array.getElem?_setIfInBounds_ne (Ne.symm hy)])
   (by intro ds;show w.heap[L.ρ id]?≠_;rw[hb];intro e;cases e) (by intro lp;show w.heap[L.ρ id]?≠_;rw[hb];intro e;cases e)
   ⟨rb,seen.push i,aR.mono yf v _ (fun _ _=>⟨rfl,rfl⟩) hv,by simp[Array.getElem?_setIfInBounds,dN],fun j=>by
    have Tb:Nat.beq j i=false↔j≠i:=by
     rw[Bool.eq_false_iff];exact⟨fun h e=>h (by subst e;simp),fun h e=>h (Nat.eq_of_beq_eq_true e)⟩
    simp only[List.mem_filter,E0,Bool.not_eq_true',Tb,Array.contains_push,Bool.or_eq_false_iff,beq_eq_false_iff_ne];constructor
    ·rintro ⟨⟨p1,p2⟩,p3⟩;exact⟨p1,p2,fun e=>p3 e⟩
    ·rintro ⟨p1,p2,p3⟩;exact⟨⟨p1,p2⟩,fun e=>p3 e⟩,fun j ej=>by cases ej;simp⟩
  have lQ:=g1.aS (d:=dst) (v:=.d (.tup [.bool true,k,u])) (x:=.tuple #[.bool true,yA.key,yA.val]) tC ⟨_,rfl,_,_,rfl,rfl,_,_,rfl,bq.mono yf _ _ ob,_,_,rfl,bq.mono yf _ _ TP,rfl⟩;rw[cd s]at hk;have sA:(aH (⟨e,h,s⟩:St σ) (.obj id (.mit v n (todo.filter fun j=>!Nat.beq j i) (some i))::aS dst (.d (.tup [.bool true,k,u])))).s=s:=cJ _ _;have key:∀ (ri:St σ),Good cx r m L F ri (a.put dst (.tuple #[.bool true,yA.key,yA.val])) { w with drawn:=d,heap:=w.heap.setIfInBounds (L.ρ id) (.mapIter (some rb) n (seen.push i) n) }->ri.s=s->go ri.env ri.heap s->next (a.put dst (.tuple #[.bool true,yA.key,yA.val])) { w with drawn:=d,heap:=w.heap.setIfInBounds (L.ρ id) (.mapIter (some rb) n (seen.push i) n) }:=by
   rintro ⟨e2,h2,s2⟩ q1 q2 q3;simp only at q2 q3;subst q2;exact ET _ _ _ _ _ _ _ q1 (dG _) yf q3
  exact key _ lQ sA hk
theorem Bn(hT:aY P T)(hY:cS P Y cx){ops:Array Oper}{i:Nat}{dst:Option Nat}{op:Op}{ty:TypeId}{pos:String}{after:Array Edge}{guard:Option (Nat×Bool)}(h0:ops[i]?=some ⟨dst,op,ty,pos,after,guard⟩){e:Env}{h:ar}{s:σ}{go:Env->ar->σ->Prop}{L:Loc}{F:Nat->Nat}{a:Act}{w:World}
  (hg:Good cx r m L F ⟨e,h,s⟩ a w) (tC:∀ d,dst=some d->d<a.tmps.size)
  (hk:lO ops.toList e guard (fun w=>a7 w e h fun e h=>Ci P T Y dst op e h s go) (fun w=>a7 w e h fun e h=>a7 (aS dst (.d (.tup []))) e h fun e h=>go e h s))
  {next:Act->World->Prop} {Q:Exit->Act->World->Prop} (ET:∀ e' h' s' L' F' a' w',Good cx r m L' F' ⟨e',h',s'⟩ a' w'->a'.tmps.size=a.tmps.size->Tr F w F' w'->go e' h' s'->next a' w') (Hf:∀ e a' w',ox Y cx r F w a.tmps.size e a' w'->Q e a' w'):wpOpIn (fr r) 0 P ops Q i next a w:=by
  simp only[wpOpIn,h0];obtain⟨Px,V2,Az⟩:=Ez (s:=s) (h:=h) (dst:=dst) (op:=op) (ty:=ty) (pos:=pos) (after:=after) hk (fun _ _ h=>h) hg;clear hk;obtain⟨g9,yP⟩:=hg.OM Az;rcases V2 with⟨hw,hk⟩|⟨hw,hk⟩
  ·rw[hw]
   simp only[if_true];rw[cd s]at hk;have KI:(aH (⟨e,h,s⟩:St σ) Px).s=s:=cJ _ _;generalize (aH (⟨e,h,s⟩:St σ) Px)=xV at hk g9 KI;obtain⟨e1,h1,s1⟩:=xV;simp only at hk KI;subst KI;have fin:∀ {o:Oper} {ws:List Wr},o=⟨dst,op,ty,pos,after,guard⟩->Out P e1 h1 o ws->a7 ws e1 h1 (fun e h=>go e h s1)->(∀ c,op ≠ .defer c) ->
     Oper.wpIn (fr r) 0 P ⟨dst,op,ty,pos,after,guard⟩ a w next Q:=by
    intro o ws ho jB hk vR;subst ho;refine zy jB (st:=⟨e1,h1,s1⟩) (fun _ _ h=>h) (fun _ _ h=>h) g9 tC vR fun x L' F' w' eR o9=>?_;rw[cd s1]at hk;have sA:(aH (⟨e1,h1,s1⟩:St σ) ws).s=s1:=cJ _ _;generalize (aH (⟨e1,h1,s1⟩:St σ) ws)=ri at hk eR sA;obtain⟨e2,h2,s2⟩:=ri;simp only at hk sA;subst sA;exact ET _ _ _ _ _ _ _ eR (dG _) o9 hk
   by_cases dn:∃ c,op = .call c
   ·obtain⟨⟨callee,args,tys⟩,rfl⟩:=dn
    cases callee with
    | builtin b=>
     obtain⟨ws,hk,jB⟩:=pC (P:=P) (e:=e1) (h:=h1) (dst:=dst) (b:=b) (args:=args) (tys:=tys) (K:=fun ws=>a7 ws e1 h1 fun e h=>go e h s1) (ty:=ty) (pos:=pos) (after:=after) (guard:=guard) hT hk;exact fin rfl jB hk (fun c e=>by cases e)
    | invoke f n=>
     have hk:KN P Y dst f n args.toList e1 h1 s1 go:=hk;unfold KN at hk;split at hk;case h_2=>exact hk.elim
     rename_i t v l' hf rF;obtain⟨g,hm,hk⟩:=hk;obtain⟨nL,dn⟩:=hk;obtain⟨y,cF,hv⟩:=g9.aD hf;have ct:=y9 g9 rF hv;have dn:=dn cx hY r m L F a w (#[y]++args.map a.eval) g9 tC ct;have bp:=Cg (P:=P) hm nL cF (w:=w) (dst:=dst) (args:=args) (tys:=tys) (ty:=ty) (pos:=pos) (after:=after) (guard:=guard);refine⟨fun _ _=>trivial,?_⟩;rw[Oper.semAt_eq _ _ _ (fun c e=>by cases e),bp,Oper.uponIn_enter];refine⟨(fun h=>by cases h),(g7 dn).mono ?_⟩;rintro en w' (⟨x,rfl,dj,L',F',eW,eR,o9⟩|⟨pv,pe,ph,ps,L',F',rfl,hy,Kc,Lg⟩);case inr=>exact Hf _ _ _ ⟨pv,pe,ph,ps,m,L',F',rfl,hy,Kc,Lg,rfl⟩
     obtain⟨e2,h2,s2⟩:=dj;exact ET _ _ _ _ _ _ _ eR (dG _) o9 eW
    | value f=>
     have hk:D8 P Y dst f args.toList e1 h1 s1 (go):=hk;unfold D8 at hk;have call:∀ (g:FuncId) (yr:List V) (lc:Array Value) (l':List V),cI e1 args.toList=some l'->a.eval f = .func (.func g) #[] lc->ak cx.yv L F w yr lc.toList ->
       ef P Y ⟨e1,h1,s1⟩ dst g (l'++yr) (fun|⟨e,h,s⟩=>go e h s) ->
       Oper.wpIn (fr r) 0 P ⟨dst,.call ⟨.value f,args,tys⟩,ty,pos,after,guard⟩ a w next Q:=by
      intro g yr lc l' rF cF jA hc;obtain⟨nL,dn⟩:=hc;have ct:ak cx.yv L F w (l'++yr) (args.map a.eval++lc).toList:=by
       simpa using (g9.cI rF).append jA
      have dn:=dn cx hY r m L F a w (args.map a.eval++lc) g9 tC ct;have bp:(execOp a.eval ⟨dst,.call ⟨.value f,args,tys⟩,ty,pos,after,guard⟩).run P w = .ok (.enter g (args.map a.eval++lc)) w:=by
       simp[execOp,resolve,Deferred.ofValue,cF,invoke,nL]
      refine⟨fun _ _=>trivial,?_⟩;rw[Oper.semAt_eq _ _ _ (fun c e=>by cases e),bp,Oper.uponIn_enter];refine⟨(fun h=>by cases h),(g7 dn).mono ?_⟩;rintro en w' (⟨x,rfl,dj,L',F',eW,eR,o9⟩|⟨pv,pe,ph,ps,L',F',rfl,hy,Kc,Lg⟩);case inr=>exact Hf _ _ _ ⟨pv,pe,ph,ps,m,L',F',rfl,hy,Kc,Lg,rfl⟩
      obtain⟨e2,h2,s2⟩:=dj;exact ET _ _ _ _ _ _ _ eR (dG _) o9 eW
     split at hk
     ·rename_i g aM l' hf rF
      obtain⟨lc,cF,jA⟩:=g9.aD hf;exact call g (inj aM) lc l' rF cF (ak.inj.2 jA) hk
     ·rename_i g aM l' hf rF
      obtain⟨lc,cF,jA⟩:=g9.aD hf;exact call g aM lc l' rF cF jA hk
     ·rename_i g first l' hf rF
      obtain⟨lf,cF,xv⟩:=g9.aD hf;obtain⟨nL,dn⟩:=hk;have ct:ak cx.yv L F w (inj first++l') (lf++args.map a.eval).toList:=by
       simpa using (ak.inj.2 xv).append (g9.cI rF)
      have dn:=dn cx hY r m L F a w (lf++args.map a.eval) g9 tC ct;have bp:(execOp a.eval ⟨dst,.call ⟨.value f,args,tys⟩,ty,pos,after,guard⟩).run P w = .ok (.enter g (lf++args.map a.eval)) w:=by
       simp[execOp,resolve,Deferred.ofValue,cF,invoke,nL]
      refine⟨fun _ _=>trivial,?_⟩;rw[Oper.semAt_eq _ _ _ (fun c e=>by cases e),bp,Oper.uponIn_enter];refine⟨(fun h=>by cases h),(g7 dn).mono ?_⟩;rintro en w' (⟨x,rfl,dj,L',F',eW,eR,o9⟩|⟨pv,pe,ph,ps,L',F',rfl,hy,Kc,Lg⟩);case inr=>exact Hf _ _ _ ⟨pv,pe,ph,ps,m,L',F',rfl,hy,Kc,Lg,rfl⟩
      obtain⟨e2,h2,s2⟩:=dj;exact ET _ _ _ _ _ _ _ eR (dG _) o9 eW
     ·rename_i l' hf rF
      obtain⟨lp,uT,cF⟩:=g9.aD hf;obtain⟨hc⟩:=hk;have ct:ak cx.yv L F w l' (args.map a.eval).toList:=by simpa using g9.cI rF
      obtain⟨fn,tmps,x8,body,yZ,KA⟩:=hc cx hY lp uT r m L F a w (args.map a.eval) g9 tC ct;have bp:(execOp a.eval ⟨dst,.call ⟨.value f,args,tys⟩,ty,pos,after,guard⟩).run P w = .ok (.round lp fn tmps x8 body) w:=by
       simp[execOp,resolve,Deferred.ofValue,cF,invoke,yZ]
      refine⟨fun _ _=>trivial,?_⟩;rw[Oper.semAt_eq _ _ _ (fun c e=>by cases e),bp,Oper.uponIn_round];refine⟨(fun h=>by cases h),(A4 KA).mono ?_⟩;rintro en w' ⟨x,rfl,dj,L',F',eW,eR,o9⟩;obtain⟨e2,h2,s2⟩:=dj;exact ET _ _ _ _ _ _ _ eR (dG _) o9 eW
     ·exact hk.elim
   ·by_cases NV:∃ b t x y ty,op = .binOp b t x y ty
    ·obtain⟨b,t,x,y,ty',rfl⟩:=NV
     have hk:(match xF T e1 b t x y with
      | some (neg,ne)=>LG neg ne fun b=>a7 (aS dst (.d (.bool b))) e1 h1 fun e h=>go e h s1
      | none=>eS T e1 h1 dst (.binOp b t x y ty') fun ws=>a7 ws e1 h1 fun e h=>go e h s1):=hk
     split at hk
     ·rename_i neg ne hn
      obtain⟨hk⟩:=hk;obtain⟨bb,nY,bp⟩:=Ff (P:=P) hT hn (st:=⟨e1,h1,s1⟩) (fun _ _ h=>h) g9 (dst:=dst) (ty:=ty) (ty':=ty') (pos:=pos) (after:=after) (guard:=guard);have hk:=hk bb nY;have lQ:=g9.aS (d:=dst) (v:=.d (.bool (wF neg bb))) (x:=.bool (wF neg bb)) tC rfl;refine⟨fun _ _=>trivial,?_⟩;rw[Oper.semAt_eq _ _ _ (fun c e=>by cases e),bp];rw[cd s1]at hk;have sA:(aH (⟨e1,h1,s1⟩:St σ) (aS dst (.d (.bool (wF neg bb))))).s=s1:=cJ _ _;generalize (aH (⟨e1,h1,s1⟩:St σ) (aS dst (.d (.bool (wF neg bb)))))=ri at hk lQ sA;obtain⟨e2,h2,s2⟩:=ri;simp only at hk sA;subst sA;exact ET _ _ _ _ _ _ _ lQ (dG _) (Tr.refl F w) hk
     ·obtain⟨ws,hk,jB⟩:=xH (P:=P) (ty:=ty) (pos:=pos) (after:=after) (guard:=guard) hT hk
      exact fin rfl jB hk (fun c e=>by cases e)
    by_cases IS:∃ x,op = .next x false
    ·obtain⟨x,rfl⟩:=IS
     exact AR (P:=P) (ty:=ty) (pos:=pos) (after:=after) (guard:=guard) g9 tC hk ET
    by_cases IT:∃ x,op = .panic x
    ·obtain⟨x,rfl⟩:=IT
     have hk:KX Y x e1 h1 s1:=hk;unfold KX at hk;split at hk;case h_2=>exact hk.elim
     rename_i t k n hx;have cF:a.eval x = .iface t (.int k n):=by
      obtain⟨y,h2,h3⟩:=g9.aD hx;have h3:y = .int k n:=h3;rw[h2,h3]
     refine⟨fun _ _=>trivial,?_⟩;have bp:(execOp a.eval ⟨dst,.panic x,ty,pos,after,guard⟩).run P w = .halt (.panic (.iface t (.int k n))) w:=by
      simp[execOp,cF,Instr.panic,goPanic]
     rw[Oper.semAt_eq _ _ _ (fun c e=>by cases e),bp];exact Hf _ _ _ ⟨_,e1,h1,s1,m,L,F,rfl,hk,g9,Tr.refl F w,rfl⟩
    rw[FR (fun c hc=>dn ⟨c,hc⟩) (fun b t x y ty hc=>NV ⟨b,t,x,y,ty,hc⟩) (fun x hc=>IS ⟨x,hc⟩) (fun x hc=>IT ⟨x,hc⟩)]at hk;have vR:∀ c,op ≠ .defer c:=fun c hc=>by subst hc;exact hk
    obtain⟨ws,hk,jB⟩:=xH (P:=P) (ty:=ty) (pos:=pos) (after:=after) (guard:=guard) hT hk;exact fin rfl jB hk vR
  ·rw[hw]
   simp only[Bool.false_eq_true,if_false];refine⟨fun _ _=>trivial,?_⟩;rw[cd s]at hk;have KI:(aH (⟨e,h,s⟩:St σ) Px).s=s:=cJ _ _;generalize (aH (⟨e,h,s⟩:St σ) Px)=xV at hk g9 KI;obtain⟨e1,h1,s1⟩:=xV;simp only at hk KI;subst KI;rw[cd s1]at hk;have lQ:=g9.aS (d:=dst) (v:=.d (.tup [])) (x:=undef) tC ⟨#[],rfl,rfl⟩;have sA:(aH (⟨e1,h1,s1⟩:St σ) (aS dst (.d (.tup [])))).s=s1:=cJ _ _;generalize (aH (⟨e1,h1,s1⟩:St σ) (aS dst (.d (.tup []))))=ri at hk lQ sA;obtain⟨e2,h2,s2⟩:=ri;simp only at hk sA;subst sA;exact ET _ _ _ _ _ _ _ lQ (dG _) (Tr.refl F w) hk
theorem nm(hT:aY P T)(hY:cS P Y cx){ops:Array Oper}{F0:Nat->Nat}{w0:World}{n0:Nat}:∀ (l:List Oper) (i:Nat) (hl:∀ j,l[j]?=ops[i+j]?) {e:Env} {h:ar} {s:σ} {K:Env->ar->σ->Prop} {L:Loc} {F:Nat->Nat} {a:Act} {w:World},
  Good cx r m L F ⟨e,h,s⟩ a w->a.tmps.size=n0->(∀ o∈l,∀ d,o.dst=some d->d<n0)->Tr F0 w0 F w->wpOps P T Y ops.toList l e h s K ->
  wpOpsIn (fr r) 0 P ops (sP Y cx r m F0 w0 n0 K) (List.range' i l.length) a w
 | [],i,hl,e,h,s,K,L,F,a,w,hg,hs,hd,tr,hk=>.inl ⟨e,h,s,L,F,rfl,hk,hg,tr,hs⟩
 | ⟨dst,op,ty,pos,after,guard⟩::l,i,hl,e,h,s,K,L,F,a,w,hg,hs,hd,tr,hk=>by
  rw[wpOps_cons]at hk;have h0:ops[i]?=some ⟨dst,op,ty,pos,after,guard⟩:=by simpa using (hl 0).symm
  have iF:∀ j,l[j]?=ops[i+1+j]?:=fun j=>by have:=hl (j+1);simpa[Nat.add_assoc,Nat.add_comm 1 j]using this
  have tC:∀ d,dst=some d->d<a.tmps.size:=fun d N4=>by rw[hs];exact hd _ (List.mem_cons_self ..) d N4
  have VR:∀ o∈l,∀ d,o.dst=some d->d<n0:=fun o ho=>hd o (List.mem_cons_of_mem _ ho);rw[List.length_cons,List.range'_succ,wpOpsIn_cons];exact Bn hT hY h0 hg tC hk (fun e' h' s' L' F' a' w' eR EX o9 eW=>nm hT hY l (i+1) iF eR (EX.trans hs) VR (Tr.trans tr o9) eW) fun e' a' w' hp=>.inr (hp.trans tr hs)
end
section
variable {F : Fence} {n : Nat} {P : Program} {Q : Exit -> Act -> World -> Prop} {a : Act} {w : World} {b : Frame} {k : List Item} {cs : List Frame}
theorem gw{c:Code}:step P (lone (b.atR a (.code (.scope c)::k)) cs w) = .next (lone (b.atR a (.code c :: .inScope c::k)) cs w):=
 step_lone_go (by simp[stepG,stepG.exec,Frame.atR])
theorem vi{c:Code}:step P (lone (b.atR a (.inScope c::k)) cs w) = .next (lone (b.atR a k) cs w):=
 step_lone_go (by simp[stepG,stepG.exec,Frame.atR])
theorem Bm{c:Code}(h:c.wpIn F n P (Exit.noGoto Q) a w):(Code.scope c).wpIn F n P Q a w:=by
 intro b k cs Wx hb hr;have h0:(lone (b.atR a (.code (.scope c)::k)) cs w).fenced P F:=fenced_calm hb hr rfl;obtain⟨e,a₁,w₁,hq,CN⟩:=h b (.inScope c::k) cs Wx hb hr
 cases e with
 | normal=>exact⟨.normal,a₁,w₁,hq,.head h0 gw (StepsIn.trans CN (.one (fenced_calm hb hr rfl) vi))⟩
 | exit lT=>
  have hx:exitTo lT (.inScope c::k)=exitTo lT k:=by simp[exitTo]
  exact⟨.exit lT,a₁,w₁,hq,fun k' hk=>.head h0 gw (CN.1 k' (by rw[hx];exact hk)),
   fun BV hk=>let ⟨k₁,h1,h2⟩:=CN.2 BV (by rw[hx];exact hk);⟨k₁,h1,.head h0 gw h2⟩⟩
 | goto l=>exact hq.elim
 | ret=>exact⟨_,a₁,w₁,hq,.of_steps (.one h0 gw) CN⟩
 | panic ch=>exact⟨_,a₁,w₁,hq,.of_steps (.one h0 gw) CN⟩
 | outgrown=>exact⟨_,a₁,w₁,hq,.of_steps (.one h0 gw) CN⟩
end
def DQ(P:Program)(T:dJ)(ops:Array Oper)(rt:RT):Prop:=
 ∀ {σ:Type} (cx:Cx σ),qE P cx -> ∀ (r:Option Nat) (m:List Nat) (L:Loc) (F:Nat->Nat) (e:Env) (h:ar) (s:σ) (a:Act) (w:World) (K:Env->ar->Prop),
  Good cx r m L F ⟨e,h,s⟩ a w->(∀ o∈ops.toList,∀ d,o.dst=some d->d<a.tmps.size)->ry rt.made e h (fun e h=>Cp P T rt.made ops.toList (ops.toList.zip rt.eO) [] e h K) ->
  ∀ id,(Code.region id ops true).wpIn (fr r) 0 P (Bt cx r m F w a.tmps.size fun e h s'=>K e h/\s'=s) a w
def cE(P:Program)(T:dJ)(ft:FT):Code->Prop
 | .region id ops draw=>draw=true -> ∀ rt,get ft.tb id=some rt->DQ P T ops rt
 | .seq a b=>cE P T ft a/\cE P T ft b
 | .cond _ a b=>cE P T ft a/\cE P T ft b
 | .block _ a=>cE P T ft a
 | .loop a=>cE P T ft a
 | .scope a=>cE P T ft a
 | .rangeFunc _ _ a b=>cE P T ft a/\cE P T ft b
 | _=>True
theorem ia{α:Type}(l:List Nat)(t:sV α):cP (aT l t) t:=by
 induction t with
 | nil=>exact fun _ _ h=>h
 | cons kv r ih=>
  obtain⟨k,v⟩:=kv;intro s u hu;simp only[aT]at hu;split at hu
  ·simp only[get]at hu ⊢
   split at hu
   ·exact hu
   ·exact ih s u hu
  ·rename_i hk
   have key:∀ (t:sV α) (s:Nat) (u:α),get (aT l t) s=some u->AH l s=true:=by
    intro t
    induction t with
    | nil=>intro s u h;cases h
    | cons kv r ih=>
     obtain⟨k,v⟩:=kv;intro s u h;simp only[aT]at h;split at h
     ·rename_i hk
      simp only[get]at h;split at h
      ·rename_i he;have:=Nat.eq_of_beq_eq_true he;subst this;exact hk
      ·exact ih s u h
     ·exact ih s u h
   have hs:=key r s u hu;simp only[get];split
   ·rename_i he
    have:=Nat.eq_of_beq_eq_true he;subst this;rw[hs]at hk;cases hk
   ·exact ih s u hu
section
variable {P : Program} {T : dJ} {ft : FT} {σ : Type} {Y : Hd σ}
theorem uf{n:Nat}{id:Nat}{ops:Array Oper}{draw:Bool}(h:codeOk n (.region id ops draw)=true):∀ o∈ops.toList,∀ d,o.dst=some d->d<n:=by
 intro o ho d hd;have:=List.all_eq_true.1 (show ops.toList.all _=true from h) o ho;rw[hd]at this;simpa using this
theorem cU(hT:aY P T):∀ (c:Code),cE P T ft c -> ∀ (st:St σ) (K:dR->St σ->Prop),Dy P T ft Y c st K->x7 P Y c st K
 | .skip,_,st,K,h=>fun cx hY r m L F a w hg hc=>wpIn_skip (.inl ⟨.normal,st,m,L,F,rfl,h,hg,Tr.refl F w,rfl⟩)
 | .exit i,_,st,K,h=>fun cx hY r m L F a w hg hc=>wpIn_exit (.inl ⟨.exit i,st,m,L,F,rfl,h,hg,Tr.refl F w,rfl⟩)
 | .ret,_,st,K,h=>fun cx hY r m L F a w hg hc=>wpIn_ret (.inl ⟨.ret,st,m,L,F,rfl,h,hg,Tr.refl F w,rfl⟩)
 | .label l,_,st,K,h=>fun cx hY r m L F a w hg hc=>wpIn_label (.inl ⟨.normal,st,m,L,F,rfl,h,hg,Tr.refl F w,rfl⟩)
 | .goto l,_,st,K,h=>False.elim h
 | .refuse y,_,st,K,h=>False.elim h
 | .loop c,_,st,K,h=>by obtain⟨h⟩:=(show vp P ft Y c st K from h);exact h
 | .rangeFunc g ps a b,_,st,K,h=>by obtain⟨h⟩:=(show fI P ft Y g ps a b st K from h);exact h
 | .scope c,hD,st,K,h=>fun cx hY r m L F a w hg hc=>by
  have:=cU hT c hD st K h cx hY r m L F a w hg hc;exact Bm (wpIn_mono this fun ex a' w' hq=>by
   rcases hq with⟨e',dj,m',L',F',rfl,hk⟩|hp
   ·cases e'<;>exact .inl ⟨_,dj,m',L',F',rfl,hk⟩
   ·have CZ:=hp
    obtain⟨v,pe,ph,ps,m',L',F',rfl,_⟩:=hp;exact .inr CZ)
 | .seq x y,hD,st,K,h=>fun cx hY r m L F a w hg hc=>by
  simp only[codeOk,Bool.and_eq_true]at hc;have:=cU hT x hD.1 st _ h cx hY r m L F a w hg hc.1;refine wpIn_seq (wpIn_mono this fun ex a' w' hq=>?_);rcases hq with⟨e',dj,m',L',F',rfl,hk,eR,tr,hs⟩|hp
  case inr=>
   have CZ:=hp;obtain⟨v,pe,ph,ps,m',L',F',rfl,_⟩:=hp;exact .inr CZ
  cases e' with
  | normal=>
   refine wpIn_mono (cU hT y hD.2 dj K hk cx hY r m' L' F' a' w' eR (by rw[hs];exact hc.2)) fun ex Iq Cn hq=>?_;rcases hq with⟨Qz,H5,WS,Je,Ge,rfl,eW,Ka,o9,EX⟩|hp
   ·exact .inl ⟨Qz,H5,WS,Je,Ge,rfl,eW,Ka,Tr.trans tr o9,EX.trans hs⟩
   ·exact .inr (hp.trans tr hs)
  | exit i=>exact .inl ⟨.exit i,dj,m',L',F',rfl,hk,eR,tr,hs⟩
  | ret=>exact .inl ⟨.ret,dj,m',L',F',rfl,hk,eR,tr,hs⟩
 | .cond c x y,hD,st,K,h=>fun cx hY r m L F a w hg hc=>by
  simp only[codeOk,Bool.and_eq_true]at hc;obtain⟨e,hp,s⟩:=st;have h:Ef (aD e c) (Dy P T ft Y x ⟨e,hp,s⟩ K) (Dy P T ft Y y ⟨e,hp,s⟩ K):=h;unfold Ef at h;split at h
  ·rename_i t ht
   have cF:a.eval c = .bool t:=hg.aD ht;rcases s8 h with⟨rfl,h⟩|⟨rfl,h⟩
   ·exact wpIn_cond cF (cU hT x hD.1 _ K h cx hY r m L F a w hg hc.1)
   ·exact wpIn_cond cF (cU hT y hD.2 _ K h cx hY r m L F a w hg hc.2)
  ·exact h.elim
 | .block i c,hD,st,K,h=>fun cx hY r m L F a w hg hc=>by
  have:=cU hT c hD st (Al i K) h cx hY r m L F a w hg hc;refine wpIn_block (wpIn_mono this fun ex a' w' hq=>?_);rcases hq with⟨e',dj,m',L',F',rfl,hk,gf⟩|hp
  case inr=>
   have CZ:=hp;obtain⟨v,pe,ph,ps,m',L',F',rfl,_⟩:=hp;exact .inr CZ
  cases e' with
  | normal=>exact .inl ⟨.normal,dj,m',L',F',rfl,hk,gf⟩
  | ret=>exact .inl ⟨.ret,dj,m',L',F',rfl,hk,gf⟩
  | exit j=>
   simp only[dR.JD,Exit.inBlock];simp only[Al]at hk;split at hk
   ·rename_i oM
    rw[if_pos (Nat.eq_of_beq_eq_true oM)];exact .inl ⟨.normal,dj,m',L',F',rfl,hk,gf⟩
   ·rename_i oM
    rw[if_neg (by rintro rfl;simp at oM)];exact .inl ⟨.exit j,dj,m',L',F',rfl,hk,gf⟩
 | .region id ops draw,hD,st,K,h=>fun cx hY r m L F a w hg hc=>by
  obtain⟨e,hp,s⟩:=st;have fin:∀ {ex:Exit} {a':Act} {w':World} {e':Env} {h':ar} {s':σ} {L':Loc} {F':Nat->Nat},ex = .normal->dX (aT ft.ks e') (fun e=>K .normal ⟨e,h',s'⟩)->Good cx r m L' F' ⟨e',h',s'⟩ a' w'->Tr F w F' w'->a'.tmps.size=a.tmps.size ->
    (∃ (e':dR) (dj:St σ) (m':List Nat) (L':Loc) (F':Nat->Nat),ex=e'.JD/\K e' dj/\Good cx r m' L' F' dj a' w'/\Tr F w F' w'/\a'.tmps.size=a.tmps.size)\/ox Y cx r F w a.tmps.size ex a' w':=by
   intro ex a' w' e' h' s' L' F' hex hk eR tr hs;rw[fX]at hk;exact .inl ⟨.normal,_,m,L',F',hex,hk,eR.sub (ia ft.ks e') (fun _ _ h=>h),tr,hs⟩
  cases draw with
  | false=>
   have h:wpOps P T Y ops.toList ops.toList e hp s (fun e h s=>dX (aT ft.ks e) fun e=>K .normal ⟨e,h,s⟩):=h;refine wpIn_mono (wpIn_region (id:=id) (Q:=sP Y cx r m F w a.tmps.size (fun e h s=>dX (aT ft.ks e) fun e=>K .normal ⟨e,h,s⟩)) ?_) fun ex a' w' hq=>?_
   ·have:=nm hT hY ops.toList 0 (fun j=>by simp) hg rfl (uf hc) (Tr.refl F w) h
    rwa [<- List.range_eq_range',Array.length_toList]at this
   ·rcases hq with⟨e',h',s',L',F',hex,hk,eR,tr,hs⟩|hp
    ·exact fin hex hk eR tr hs
    ·exact .inr hp
  | true=>
   have h:(match get ft.tb id with
    | some ⟨made,eO⟩=>ry made e hp fun e h=>Cp P T made ops.toList (ops.toList.zip eO) [] e h fun e h=>dX (aT ft.ks e) fun e=>K .normal ⟨e,h,s⟩
    | none=>wR P ft Y id ops ⟨e,hp,s⟩ K):=h
   split at h
   ·rename_i made eO TG
    have SX:=hD rfl ⟨made,eO⟩ TG cx hY.laid r m L F e hp s a w _ hg (uf hc) h;refine wpIn_mono (SX id) fun ex a' w' hq=>?_;obtain⟨e',h',s',L',F',hex,⟨hk,rfl⟩,eR,tr,hs⟩:=hq;exact fin hex hk eR tr hs
   ·obtain⟨h⟩:=h
    exact h cx hY r m L F a w hg hc
end
@[ext] structure Fs where
 env:Nat->Option V
 heap:Nat->Option Obj
def eQ(f:Fs):Wr->Fs
 | .set s v=>⟨fun x=>if x=s then some v else f.env x,f.heap⟩
 | .obj i o=>⟨f.env,fun x=>if x=i then some o else f.heap x⟩
 | .new i o=>⟨f.env,fun x=>if x=i then some o else f.heap x⟩
 | .newq i o=>⟨f.env,fun x=>if x=i then some o else f.heap x⟩
 | .del i=>⟨f.env,fun x=>if x=i then none else f.heap x⟩
def bL(f:Fs):List Wr->Fs
 | []=>f
 | w::r=>bL (eQ f w) r
def cm{σ:Type}(st:St σ):Fs:=⟨get st.env,get st.heap⟩
def lr:List Wr->List Nat
 | []=>[]
 | .set s _::r=>s::lr r
 | _::r=>lr r
theorem fG:∀ {l:List Nat} {n:Nat},AH l n=true↔n∈l
 | [],n=>by simp[AH]
 | k::r,n=>by
  simp only[AH,List.mem_cons]
  cases h:Nat.beq k n with
  | true=>simp[Nat.eq_of_beq_eq_true h]
  | false=>
   have:n≠k:=by rintro rfl;simp at h
   simp[this,fG (l:=r)]
theorem fk:∀ {l m:List Nat},jw l m=true -> ∀ x∈l,x∉m
 | [],m,_,x,hx=>by cases hx
 | k::r,m,h,x,hx=>by
  simp only[jw]at h;split at h
  ·cases h
  rename_i hk;rcases List.mem_cons.1 hx with rfl|hx
  ·intro hm;rw[fG.2 hm]at hk;cases hk
  ·exact fk h x hx
theorem wD:∀ {l m:List Nat},H6 l m=true -> ∀ x∈l,x∈m
 | [],m,_,x,hx=>by cases hx
 | k::r,m,h,x,hx=>by
  simp only[H6]at h;split at h;case h_2=>cases h
  rename_i hk;rcases List.mem_cons.1 hx with rfl|hx
  ·exact fG.1 hk
  ·exact wD h x hx
theorem fW:∀ {ws:List Wr} (f:Fs) {x:Nat},x∉lr ws->(bL f ws).env x=f.env x
 | [],_,_,_=>rfl
 | w::r,f,x,h=>by
  rw[bL]
  cases w with
  | set s v=>
   simp only[lr,List.mem_cons,not_or]at h;rw[fW _ h.2];simp[eQ,h.1]
  | _=>rw[fW (ws:=r) _ h];rfl
theorem eT:∀ {ws:List Wr} (f:Fs) {x:Nat},x∉ca ws->(bL f ws).heap x=f.heap x
 | [],_,_,_=>rfl
 | w::r,f,x,h=>by
  rw[bL]
  cases w with
  | set s v=>rw[eT (ws:=r) _ h];rfl
  | _=>
   simp only[ca,List.mem_cons,not_or]at h;rw[eT _ h.2];simp[eQ,h.1]
theorem iH:∀ {ws:List Wr} {f g:Fs} {x:Nat},f.env x=g.env x->(bL f ws).env x=(bL g ws).env x
 | [],_,_,_,h=>h
 | w::r,f,g,x,h=>by
  rw[bL,bL];apply iH;cases w<;>simp[eQ,h]
theorem g6:∀ {ws:List Wr} {f g:Fs} {x:Nat},f.heap x=g.heap x->(bL f ws).heap x=(bL g ws).heap x
 | [],_,_,_,h=>h
 | w::r,f,g,x,h=>by
  rw[bL,bL];apply g6;cases w<;>simp[eQ,h]
theorem Ak{u v:List Wr}(f:Fs)(h1:∀ x∈lr u,x∉lr v)(h2:∀ x∈ca u,x∉ca v):bL (bL f u) v=bL (bL f v) u:=by
 ext1
 ·funext x
  by_cases hx:x∈lr u
  ·rw[fW _ (h1 x hx)]
   exact(iH (fW f (h1 x hx))).symm
  ·rw[fW (ws:=u) _ hx]
   exact iH (fW f hx)
 ·funext x
  by_cases hx:x∈ca u
  ·rw[eT _ (h2 x hx)]
   exact(g6 (eT f (h2 x hx))).symm
  ·rw[eT (ws:=u) _ hx]
   exact g6 (eT f hx)
theorem yK{σ:Type}:∀ (ws:List Wr) (st:St σ),cm (aH st (o8 ws))=bL (cm st) ws
 | [],st=>rfl
 | w::r,st=>by
  have key:∀ w':Wr,cm (br st w')=eQ (cm st) w->cm (aH st (w'::o8 r))=bL (cm st) (w::r):=by
   intro w' h;rw[aH,yK r,bL,h]
  cases w with
  | set s v=>exact key _ (by simp only[cm,br,eQ];congr 1;funext x;rw[dt])
  | obj i o=>exact key _ (by simp only[cm,br,eQ];congr 1;funext x;rw[dt])
  | new i o=>exact key (.newq i o) (by simp only[cm,br,eQ];congr 1;funext x;rw[eM])
  | newq i o=>exact key _ (by simp only[cm,br,eQ];congr 1;funext x;rw[eM])
  | del i=>exact key _ (by simp only[cm,br,eQ];congr 1;funext x;rw[dz])
structure oy(f:Fs)(id:Nat):Prop where
 none:f.heap id=none
 env:∀ s v,f.env s=some v->¬ fx v id
 heap:∀ i o,f.heap i=some o->¬ jG o id
mutual
theorem sD(id:Nat):∀ (v:V),¬ fx v id->aB (aU id) v=v
 | .d _,_=>rfl
 | .agg cs,h=>by simp only[aB];rw[jC id cs h]
 | .tup cs,h=>by simp only[aB];rw[jC id cs h]
 | .clo _ cs,h=>by simp only[aB];rw[jC id cs h]
 | .ptr i off,h=>by
  have hi:Nat.beq i id=false:=by rw[Bool.eq_false_iff];intro e;exact h (Nat.eq_of_beq_eq_true e)
  simp only[aB,aU,kB,hi]
 | .ep i sz j off,h=>by
  have hi:Nat.beq i id=false:=by rw[Bool.eq_false_iff];intro e;exact h (Nat.eq_of_beq_eq_true e)
  simp only[aB,aU,kB,hi]
 | .sl i sz off len,h=>by
  have hi:Nat.beq i id=false:=by rw[Bool.eq_false_iff];intro e;exact h (Nat.eq_of_beq_eq_true e)
  simp only[aB,aU,kB,hi]
 | .mp i,h=>by
  have hi:Nat.beq i id=false:=by rw[Bool.eq_false_iff];intro e;exact h (Nat.eq_of_beq_eq_true e)
  simp only[aB,aU,kB,hi]
 | .it i,h=>by
  have hi:Nat.beq i id=false:=by rw[Bool.eq_false_iff];intro e;exact h (Nat.eq_of_beq_eq_true e)
  simp only[aB,aU,kB,hi]
 | .yld,_=>rfl
 | .unk,_=>rfl
theorem jC(id:Nat):∀ (vs:List V),¬ bt vs id->cr (aU id) vs=vs
 | [],_=>rfl
 | v::r,h=>by
  simp only[bt,not_or]at h;simp only[cr];rw[sD id v h.1,jC id r h.2]
end
theorem vS(id:Nat):∀ (es:List (List V)),¬ bt es.flatten id->cG (aU id) es=es
 | [],_=>rfl
 | e::r,h=>by
  simp only[List.flatten_cons,mX,not_or]at h;simp only[cG];rw[jC id e h.1,vS id r h.2]
theorem zc(id:Nat)(o:Obj)(h:¬ jG o id):Obj.aB (aU id) o=o:=by
 cases o with
 | box c=>cases c with
  | dd l=>rfl
  | vv l=>simp only[Obj.aB];rw[jC id l h]
 | arr sz es=>cases es with
  | dd l=>rfl
  | vv l=>simp only[Obj.aB];rw[vS id l h]
 | map bT=>rfl
 | iter s n=>rfl
 | buf t s=>rfl
 | tb t l=>simp only[Obj.aB];rw[jC id l h]
 | mit v n l u=>simp only[Obj.aB];rw[sD id v h]
mutual
theorem gm(i:Nat):∀ (v:V),fx v i->i∈bN v
 | .d _,h=>h.elim
 | .agg cs,h=>by simpa[bN]using dD i cs h
 | .tup cs,h=>by simpa[bN]using dD i cs h
 | .clo _ cs,h=>by simpa[bN]using dD i cs h
 | .ptr j off,h=>by have:j=i:=h;simp[bN,this]
 | .ep j sz k off,h=>by have:j=i:=h;simp[bN,this]
 | .sl j sz off len,h=>by have:j=i:=h;simp[bN,this]
 | .mp j,h=>by have:j=i:=h;simp[bN,this]
 | .it j,h=>by have:j=i:=h;simp[bN,this]
 | .yld,h=>h.elim
 | .unk,h=>h.elim
theorem dD(i:Nat):∀ (vs:List V),bt vs i->i∈dY vs
 | [],h=>h.elim
 | v::r,h=>by
  simp only[dY,List.mem_append];exact h.imp (gm i v) (dD i r)
end
theorem dE(i:Nat)(o:Obj)(h:jG o i):i∈e6 o:=by
 cases o with
 | box c=>cases c with
  | dd l=>exact(dF l i h).elim
  | vv l=>exact dD i l h
 | arr sz es=>cases es with
  | dd l=>
   exfalso;have h:bt (cw l).flatten i:=h;rw[dB]at h;exact dF _ i h
  | vv l=>exact dD i l.flatten h
 | map bT=>exact h.elim
 | iter s n=>exact h.elim
 | buf t s=>exact h.elim
 | tb t l=>exact dD i l h
 | mit v n l u=>exact gm i v h
theorem oy.eQ{f:Fs}{id:Nat}{w:Wr}(h:oy f id)(h1:id∉bM [w])(h2:id∉ca [w]):oy (eQ f w) id:=by
 have put:∀ (i:Nat) (o:Obj),id∉e6 o->id≠i->oy ⟨f.env,fun x=>if x=i then some o else f.heap x⟩ id:=by
  intro i o ho hi;refine⟨by simp[hi,h.none],h.env,fun j o' hj=>?_⟩;simp only at hj;split at hj
  ·cases hj;exact fun hn=>ho (dE id _ hn)
  ·exact h.heap j o' hj
 cases w with
 | set s v=>
  refine⟨h.none,fun t u hu=>?_,h.heap⟩;simp only[PX.eQ]at hu;split at hu
  ·cases hu;exact fun hn=>h1 (by simp[bM,gm id _ hn])
  ·exact h.env t u hu
 | obj i o=>exact put i o (by simpa[bM]using h1) (by simpa[ca]using h2)
 | new i o=>exact put i o (by simpa[bM]using h1) (by simpa[ca]using h2)
 | newq i o=>exact put i o (by simpa[bM]using h1) (by simpa[ca]using h2)
 | del i=>
  refine⟨?_,h.env,fun j o' hj=>?_⟩
  ·simp only[PX.eQ];split
   ·rfl
   ·exact h.none
  ·simp only[PX.eQ]at hj
   split at hj
   ·cases hj
   ·exact h.heap j o' hj
theorem z8(w:Wr)(r:List Wr)(x:Nat):x∈bM (w::r)↔x∈bM [w]\/x∈bM r:=by cases w<;>simp[bM]
theorem Bj(w:Wr)(r:List Wr)(x:Nat):x∈ca (w::r)↔x∈ca [w]\/x∈ca r:=by cases w<;>simp[ca]
theorem oy.bL{id:Nat}:∀ {ws:List Wr} {f:Fs},oy f id->id∉bM ws->id∉ca ws->oy (bL f ws) id
 | [],f,h,_,_=>h
 | w::r,f,h,h1,h2=>by
  rw[z8,not_or]at h1;rw[Bj,not_or]at h2;exact oy.bL (ws:=r) (f:=PX.eQ f w) (h.eQ h1.1 h2.1) h1.2 h2.2
theorem rP{w:Wr}{r:List Wr}(h:dZ (w::r)=true):dZ r=true/\(∀ x∈bn r,x∉bM [w])/\(∀ x∈bn r,x∈ca [w] -> ∃ i,w = .del i)/\(∀ i o,w ≠ .newq i o):=by
 have key:∀ {l:List Nat},(match jw (bn r) l with
   | true=>dZ r
   | false=>false)=true->dZ r=true /\ ∀ x∈bn r,x∉l:=by
  intro l h;split at h
  ·rename_i hd;exact⟨h,fk hd⟩
  ·cases h
 cases w with
 | set s v=>
  obtain⟨h1,h2⟩:=key h;exact⟨h1,fun x hx=>by simpa[bM]using h2 x hx,fun x hx hm=>by simp[ca]at hm,fun i o e=>by cases e⟩
 | obj i o=>
  obtain⟨h1,h2⟩:=key h;exact⟨h1,fun x hx=>by have:=h2 x hx;simp at this;simpa[bM]using this.2,fun x hx hm=>by have:=h2 x hx;simp[ca]at hm;simp[hm]at this,fun i o e=>by cases e⟩
 | new i o=>
  obtain⟨h1,h2⟩:=key h;exact⟨h1,fun x hx=>by have:=h2 x hx;simp at this;simpa[bM]using this.2,fun x hx hm=>by have:=h2 x hx;simp[ca]at hm;simp[hm]at this,fun i o e=>by cases e⟩
 | newq i o=>cases h
 | del i=>exact⟨h,fun x hx=>by simp[bM],fun x hx hm=>⟨i,rfl⟩,fun i o e=>by cases e⟩
theorem xl{σ:Type}:∀ (ws:List Wr) (st:St σ),dZ ws=true->(∀ id∈bn ws,oy (cm st) id)->cm (aH st ws)=bL (cm st) ws
 | [],st,_,_=>rfl
 | w::r,st,ec,hu=>by
  obtain⟨h1,h2,h3,h4⟩:=rP ec;have Lx:∀ id∈bn r,oy (cm st) id:=fun id eb=>hu id (by cases w<;>simp[bn,eb]);have key:cm (br st w)=eQ (cm st) w:=by
   cases w with
   | set s v=>simp only[cm,br,eQ];congr 1;funext x;rw[dt]
   | obj i o=>simp only[cm,br,eQ];congr 1;funext x;rw[dt]
   | new i o=>
    have hi:oy (cm st) i:=hu i (by simp[bn]);simp only[cm,br,eQ]
    congr 1
    ·funext x
     rw[bC]
     cases hx:get st.env x with
     | none=>rfl
     | some v=>simp only[Option.map_some];rw[sD i v (hi.env x v hx)]
    ·funext x
     rw[eM,bC,dz];split
     ·rfl
     ·cases hx:get st.heap x with
      | none=>rfl
      | some o'=>simp only[Option.map_some];rw[zc i o' (hi.heap x o' hx)]
   | newq i o=>exact absurd rfl (h4 i o)
   | del i=>simp only[cm,br,eQ];congr 1;funext x;rw[dz]
  rw[aH,bL,<- key];refine xl r _ h1 fun id eb=>?_;rw[key];by_cases hm:id∈ca [w]
  ·obtain⟨i,rfl⟩:=h3 id eb hm
   have hh:=Lx id eb;refine⟨?_,hh.env,fun j o' hj=>?_⟩
   ·simp only[PX.eQ];split
    ·rfl
    ·exact hh.none
   ·simp only[PX.eQ]at hj
    split at hj
    ·cases hj
    ·exact hh.heap j o' hj
  ·exact(Lx id eb).eQ (h2 id eb) hm
structure Rec where
 idx:Nat
 e:Env
 h:ar
 os:List Nat
 ws:List Wr
 iz:List Nat
def Rec.oo(r:Rec):OO:=⟨r.os,ca r.ws,bn r.ws,bM r.ws⟩
def Jj(r:Rec)(f:Fs):Prop:=(∀ s v,get r.e s=some v->f.env s=some v)/\(∀ s o,get r.h s=some o->f.heap s=some o)
def nI:List Rec->Fs->Fs->Prop
 | [],f,f'=>f'=f
 | r::l,f,f'=>Jj r f/\nI l (bL f r.ws) f'
structure wK(a b:Rec):Prop where
 env:∀ x∈lr a.ws,get b.e x=none
 heap:∀ x∈ca a.ws,get b.h x=none
 T2:∀ x∈lr a.ws,x∉lr b.ws
 C9:∀ x∈ca a.ws,x∉ca b.ws
 news:∀ x∈bn a.ws,x∉bM b.ws
structure DR(a b:Rec):Prop where
 l:wK a b
 r:wK b a
theorem wK.sub{a b:Rec}(h:wK a b)(f:Fs):Jj b (bL f a.ws)↔Jj b f:=by
 constructor
 ·rintro ⟨h1,h2⟩
  refine⟨fun s v hs=>?_,fun s o hs=>?_⟩
  ·rw[<- h1 s v hs];exact(fW f fun hm=>by rw[h.env s hm]at hs;cases hs).symm
  ·rw[<- h2 s o hs];exact(eT f fun hm=>by rw[h.heap s hm]at hs;cases hs).symm
 ·rintro ⟨h1,h2⟩
  refine⟨fun s v hs=>?_,fun s o hs=>?_⟩
  ·rw[fW f fun hm=>by rw[h.env s hm]at hs;cases hs];exact h1 s v hs
  ·rw[eT f fun hm=>by rw[h.heap s hm]at hs;cases hs];exact h2 s o hs
theorem nI.swap{a b:Rec}{l:List Rec}{f f':Fs}(hf:DR a b)(h:nI (a::b::l) f f'):nI (b::a::l) f f':=by
 obtain⟨h1,h2,h3⟩:=h;refine⟨(hf.l.sub f).1 h2,(hf.r.sub f).2 h1,?_⟩;rw[Ak f hf.r.T2 hf.r.C9];exact h3
theorem nI.front{b:Rec}{l2:List Rec}{f':Fs}:∀ {l1:List Rec} {f:Fs},(∀ a∈l1,DR a b)->nI (l1++b::l2) f f'->nI (b::(l1++l2)) f f'
 | [],_,_,h=>h
 | a::l1,f,hf,h=>by
  obtain⟨h1,h2⟩:=h;have:=nI.front (l1:=l1) (fun i hi=>hf i (List.mem_cons_of_mem _ hi)) h2;exact nI.swap (hf a (List.mem_cons_self ..)) ⟨h1,this⟩
def rp(P:Program)(ops:Array Oper)(q:Rec):Prop:=
 ∀ {σ:Type} (cx:Cx σ),qE P cx -> ∀ (r:Option Nat) (m:List Nat) (L:Loc) (F:Nat->Nat) (st:St σ) (a:Act) (w:World),cP q.e st.env->cP q.h st.heap->Good cx r m L F st a w ->
  (∀ o,ops[q.idx]?=some o -> ∀ k,o.dst=some k->k<a.tmps.size) -> ∀ (next:Act->World->Prop) (Q:Exit->Act->World->Prop),
  (∀ a' L' F' w',a'.tmps.size=a.tmps.size->Good cx r m L' F' (aH st q.ws) a' w'->Tr F w F' w'->next a' w')->wpOpIn (fr r) 0 P ops Q q.idx next a w
structure Pr(a b:Rec):Prop where
 lt:a.idx<b.idx
 free:a.idx∈b.iz->DR a b
 names:∀ x∈bn b.ws,x∉bM a.ws
 C9:∀ x∈bn b.ws,x∉ca a.ws
theorem fS:∀ {ws:List Wr} {x:Nat},x∈bn ws->x∈ca ws
 | [],_,h=>h
 | w::r,x,h=>by
  cases w<;>simp only[bn,ca,List.mem_cons]at h ⊢
  ·exact fS h
  ·exact .inr (fS h)
  ·exact h.imp id fS
  ·exact .inr (fS h)
  ·exact .inr (fS h)
def qY:Nat->List Oper->Bool
 | _,[]=>true
 | i,o::r=>o.after.toList.all (fun e=>!Region.binds .any e||Nat.blt e.on i)&&qY (i+1) r
def DY(eO:List OT)(o:Oper)(i:Nat):Bool:=
 o.after.toList.any fun e=>Region.binds .any e&&(Nat.beq e.on i||(Nat.blt i e.on&&(match eO[e.on]? with
  | some u=>!AH u.iz i
  | none=>false)))
def nB(eO:List OT):Nat->List Oper->List OT->Bool
 | _,[],_=>true
 | j,o::r,t::tr=>(List.range j).all (fun i=>AH t.iz i||DY eO o i)&&nB eO (j+1) r tr
 | _,_::_,[]=>false
def sw(d:Option Nat)(ts:List Nat):Bool:=
 match d with
 | none=>true
 | some d=>!AH ts d
def Iy(d d':Option Nat):Bool:=
 match d,d' with
 | some d,some d'=>!Nat.beq d d'
 | _,_=>true
def ub(ops:List Oper)(eO:List OT)(o:Oper)(t:OT):List Nat->Bool
 | []=>true
 | i::r=>(match ops[i]?,eO[i]? with
  | some p,some u=>sw p.dst t.ts&&sw o.dst u.ts&&Iy p.dst o.dst
  | _,_=>false)&&ub ops eO o t r
def qg(ops:List Oper)(eO:List OT):List Oper->List OT->Bool
 | [],_=>true
 | o::r,t::tr=>ub ops eO o t t.iz&&qg ops eO r tr
 | _::_,[]=>false
def jL(ops:List Oper)(rt:RT):Bool:=
 Nat.beq ops.length rt.eO.length&&qY 0 ops&&nB rt.eO 0 ops rt.eO&&qg ops rt.eO ops rt.eO&&rt.made.all fun d=>Nat.blt d 500000
theorem gq:∀ {l:List Oper} {i:Nat},qY i l=true -> ∀ (j:Nat) (o:Oper),l[j]?=some o -> ∀ e∈o.after,Region.binds .any e=true->e.on<i+j
 | [],_,_,j,o,ho,_,_,_=>by simp at ho
 | x::l,i,h,j,o,ho,e,he,hb=>by
  simp only[qY,Bool.and_eq_true,List.all_eq_true]at h
  cases j with
  | zero=>
   simp only[List.getElem?_cons_zero,Option.some.injEq]at ho;subst ho;have:=h.1 e (by simpa using he);simp only[hb,Bool.not_true,Bool.false_or]at this;exact Nat.le_of_ble_eq_true this
  | succ j=>
   have:=gq h.2 j o (by simpa using ho) e he hb;omega
theorem l3{eO:List OT}:∀ {l:List Oper} {tr:List OT} {k:Nat},nB eO k l tr=true -> ∀ (j:Nat) (o:Oper) (t:OT),l[j]?=some o->tr[j]?=some t -> ∀ i,i<k+j->i∈t.iz \/
  ∃ e∈o.after,Region.binds .any e=true/\(e.on=i\/i<e.on /\ ∃ u,eO[e.on]?=some u/\i∉u.iz)
 | [],_,_,_,j,o,t,ho,_,_,_=>by simp at ho
 | _::_,[],_,h,j,o,t,_,ht,_,_=>by simp at ht
 | x::l,y::tr,k,h,j,o,t,ho,ht,i,hi=>by
  simp only[nB,Bool.and_eq_true,List.all_eq_true]at h
  cases j with
  | zero=>
   simp only[List.getElem?_cons_zero,Option.some.injEq]at ho ht;subst ho;subst ht;have:=h.1 i (by simpa using hi);rw[Bool.or_eq_true]at this;rcases this with h1|h1
   ·exact .inl (fG.1 h1)
   ·right
    simp only[DY,List.any_eq_true,Bool.and_eq_true,Bool.or_eq_true]at h1;obtain⟨e,he,hb,Hb⟩:=h1;refine⟨e,by simpa using he,hb,?_⟩;rcases Hb with h2|⟨h2,h3⟩
    ·exact .inl (Nat.eq_of_beq_eq_true h2)
    ·right
     refine⟨Nat.le_of_ble_eq_true h2,?_⟩;split at h3
     ·rename_i u hu
      refine⟨u,hu,fun hm=>?_⟩;rw[fG.2 hm]at h3;cases h3
     ·cases h3
  | succ j=>exact l3 h.2 j o t (by simpa using ho) (by simpa using ht) i (by omega)
theorem rQ{ops:List Oper}{eO:List OT}{o:Oper}{t:OT}:∀ {l:List Nat},ub ops eO o t l=true -> ∀ i∈l,∃ p u,ops[i]?=some p/\eO[i]?=some u/\(∀ d,p.dst=some d->d∉t.ts)/\(∀ d,o.dst=some d->d∉u.ts)/\(∀ d,p.dst=some d->o.dst≠some d)
 | [],_,i,hi=>by cases hi
 | k::r,h,i,hi=>by
  simp only[ub,Bool.and_eq_true]at h;rcases List.mem_cons.1 hi with rfl|hi
  ·have h1:=h.1
   split at h1;case h_2=>cases h1
   rename_i p u hp hu;simp only[Bool.and_eq_true]at h1;obtain⟨⟨h2,h3⟩,h4⟩:=h1;refine⟨p,u,hp,hu,fun d hd hm=>?_,fun d hd hm=>?_,fun d hd he=>?_⟩
   ·rw[hd]at h2;simp[sw,fG.2 hm]at h2
   ·rw[hd]at h3;simp[sw,fG.2 hm]at h3
   ·rw[hd,he]at h4;simp[Iy]at h4
  ·exact rQ h.2 i hi
theorem qh{ops:List Oper}{eO:List OT}:∀ {l:List Oper} {tr:List OT},qg ops eO l tr=true -> ∀ (j:Nat) (o:Oper) (t:OT),l[j]?=some o->tr[j]?=some t->ub ops eO o t t.iz=true
 | [],_,_,j,o,t,ho,_=>by simp at ho
 | _::_,[],h,j,o,t,_,ht=>by simp at ht
 | x::l,y::tr,h,j,o,t,ho,ht=>by
  simp only[qg,Bool.and_eq_true]at h
  cases j with
  | zero=>
   simp only[List.getElem?_cons_zero,Option.some.injEq]at ho ht;subst ho;subst ht;exact h.1
  | succ j=>exact qh h.2 j o t (by simpa using ho) (by simpa using ht)
theorem kx{aV:Array Bool}{i:Nat}(hi:i<aV.size)(h:aV.getD i true≠false):aV.getD i false=true:=by
 simp only[Array.getD_eq_getD_getElem?]at h ⊢;rw[Array.getElem?_eq_getElem hi]at h ⊢;simpa using h
theorem iY{aV:Array Bool}{i:Nat}(h:aV.getD i false=true):aV.getD i true=true:=by
 simp only[Array.getD_eq_getD_getElem?]at h ⊢
 cases hi:aV[i]? with
 | none=>rw[hi]at h;cases h
 | some b=>rw[hi]at h;simpa using h
structure DW(ops:Array Oper)(l:List Rec)(aV:Array Bool):Prop where
 mem:∀ i,(∃ q∈l,q.idx=i)↔aV.getD i true=false
 size:aV.size=ops.size
 closed:∀ (j:Nat) (o:Oper),aV.getD j false=true->ops[j]?=some o -> ∀ e∈o.after,Region.binds .any e=true->aV.getD e.on false=true
structure Rs(P:Program)(ops:Array Oper)(eO:List OT)(l:List Rec):Prop where
 pw:l.Pairwise Pr
 snd:∀ q∈l,rp P ops q
 news:∀ q∈l,dZ q.ws=true
 iz:∀ q∈l,∃ t,eO[q.idx]?=some t/\q.iz=t.iz
theorem DW.ahead{ops:Array Oper}{l:List Rec}{aV:Array Bool}(h:DW ops l aV){eO:List OT}(hb:qY 0 ops.toList=true)(hA:nB eO 0 ops.toList eO=true)(hlen:ops.toList.length=eO.length) :
  ∀ (n j:Nat) (o:Oper) (t:OT),j<n->ops[j]?=some o->eO[j]?=some t->(∀ e∈o.after,Region.binds .any e=true->aV.getD e.on false=true) -> ∀ i,i<j->i∉t.iz->aV.getD i false=true
 | 0,_,_,_,hj,_,_,_,_,_,_=>by omega
 | n+1,j,o,t,hj,ho,ht,hl,i,hi,hn=>by
  rcases l3 hA j o t (by simpa using ho) ht i (by omega) with h1|⟨e,he,EF,Hb⟩
  ·exact absurd h1 hn
  have dN:=gq hb j o (by simpa using ho) e he EF;rcases Hb with rfl|⟨CX,u,hu,Lq⟩
  ·exact hl e he EF
  ·have Lr:j<ops.size:=(Array.getElem?_eq_some_iff.1 ho).1
   have mG:ops[e.on]?=some ops[e.on]:=Array.getElem?_eq_getElem (by omega);exact DW.ahead h hb hA hlen n e.on _ u (by omega) mG hu (h.closed e.on _ (hl e he EF) mG) i CX Lq
section
variable {P : Program} {σ : Type} {cx : Cx σ} {r : Option Nat} {m : List Nat}
theorem DB(yS:qE P cx){ops:Array Oper}{rt:RT}(sd:jL ops.toList rt=true){Q:Exit->Act->World->Prop}{f':Fs}{s:σ}{n0:Nat}{F0:Nat->Nat}{w0:World}
  (hd:∀ o∈ops.toList,∀ d,o.dst=some d->d<n0)
  (hQ:∀ a w L F (st:St σ),cm st=f'->st.s=s->Good cx r m L F st a w->Tr F0 w0 F w->a.tmps.size=n0->Q .normal a w) :
  ∀ (fuel:Nat) {l:List Rec} {aV:Array Bool} {st:St σ} {a:Act} {w:World} {L:Loc} {F:Nat->Nat},
  Rs P ops rt.eO l->Good cx r m L F st a w->st.s=s->Tr F0 w0 F w->a.tmps.size=n0->(∀ q∈l,∀ id∈bn q.ws,oy (cm st) id)->nI l (cm st) f'->l.length<=fuel->DW ops l aV ->
  wpAnyIn (fr r) 0 P .any ops Q fuel aV a w:=by
 simp only[jL,Bool.and_eq_true]at sd;obtain⟨⟨⟨⟨hlen,kV⟩,mR⟩,lR⟩,rG⟩:=sd;have hlen:=Nat.eq_of_beq_eq_true hlen;have Kw:∀ {l:List Rec} {aV:Array Bool},l.Pairwise Pr->DW ops l aV->Region.ready .any ops aV = []->l = []:=by
  intro l aV hp ht hr
  cases l with
  | nil=>rfl
  | cons q l=>
   exfalso;have hi:=(ht.mem q.idx).1 ⟨q,List.mem_cons_self ..,rfl⟩;have V8:q.idx<ops.size:=by
    rcases Nat.lt_or_ge q.idx aV.size with h|h
    ·rw[<- ht.size];exact h
    ·simp[Array.getD_eq_getD_getElem?,Array.getElem?_eq_none h]at hi
   have hG:q.idx∈Region.ready .any ops aV:=by
    rw[mem_ready];refine⟨hi,ops[q.idx],Array.getElem?_eq_getElem V8,fun e he hb=>?_⟩;have dN:=gq kV q.idx ops[q.idx] (by simp) e he hb;refine kx (by rw[ht.size];omega) fun hf=>?_;obtain⟨q',DL,J3⟩:=(ht.mem e.on).2 hf;rcases List.mem_cons.1 DL with h|h
    ·subst h;omega
    ·have:=((List.pairwise_cons.1 hp).1 _ h).lt
     omega
   rw[hr]at hG;cases hG
 intro fuel
 induction fuel with
 | zero=>
  intro l aV st a w L F xB hg hs tr hn hu bp hle ht;have hl:l = []:=List.length_eq_zero_iff.1 (by omega);subst hl;have bp:f'=cm st:=bp;refine⟨?_,hQ a w L F st bp.symm hs hg tr hn⟩
  cases hr:Region.ready .any ops aV with
  | nil=>rfl
  | cons i _=>
   have:i∈Region.ready .any ops aV:=by rw[hr];exact List.mem_cons_self ..
   obtain⟨q,hq,_⟩:=(ht.mem i).2 (mem_ready.1 this).1;cases hq
 | succ fuel ih=>
  intro l aV st a w L F xB hg hs tr hn hu bp hle ht;refine⟨fun hr=>?_,fun j hj=>?_⟩
  ·have hl:=Kw xB.pw ht hr
   subst hl;have bp:f'=cm st:=bp;exact hQ a w L F st bp.symm hs hg tr hn
  ·obtain⟨G5,oj,CY,lP⟩:=mem_ready.1 hj
   obtain⟨q,hq,rfl⟩:=(ht.mem j).2 G5;obtain⟨l1,l2,rfl⟩:=List.append_of_mem hq;have u4:=List.pairwise_append.1 xB.pw;obtain⟨t,TC,TB⟩:=xB.iz q hq;have gd:∀ p∈l1,DR p q:=by
    intro p hp;have Ku:=u4.2.2 p hp q (List.mem_cons_self ..);refine Ku.free (Classical.byContradiction fun u1=>?_);rw[TB]at u1;have:=ht.ahead kV mR hlen (q.idx+1) q.idx oj t (by omega) CY TC lP p.idx Ku.lt u1;have h3:=iY this;rw[(ht.mem p.idx).1 ⟨p,List.mem_append_left _ hp,rfl⟩]at h3;cases h3
   obtain⟨pX,gf⟩:=nI.front gd bp;have yc:=xB.news q hq;have yY:cm (aH st q.ws)=bL (cm st) q.ws:=xl q.ws st yc (hu q hq);refine xB.snd q hq cx yS r m L F st a w pX.1 pX.2 hg (fun o ho k hk=>?_) _ _ fun a' L' F' w' cM eR o9=>?_
   ·rw[hn]
    exact hd o (by simpa using Array.mem_of_getElem? ho) k hk
   ·have hG:∀ p,p∈l1++l2->p∈l1++q::l2:=fun p hp=>by
     rcases List.mem_append.1 hp with h|h
     ·exact List.mem_append_left _ h
     ·exact List.mem_append_right _ (List.mem_cons_of_mem _ h)
    have eX:∀ p∈l1++l2,p.idx≠q.idx:=by
     intro p hp;rcases List.mem_append.1 hp with h|h
     ·have:=(u4.2.2 p h q (List.mem_cons_self ..)).lt;omega
     ·have:=((List.pairwise_cons.1 u4.2.1).1 p h).lt;omega
    refine ih (l:=l1++l2) ⟨?_,fun p hp=>xB.snd p (hG p hp),fun p hp=>xB.news p (hG p hp),fun p hp=>xB.iz p (hG p hp)⟩ eR ((cJ _ _).trans hs) (Tr.trans tr o9) (cM.trans hn) ?_ (by rw[yY];exact gf) (by simp at hle ⊢;omega) ⟨fun i=>?_,?_,?_⟩
    ·exact List.pairwise_append.2 ⟨u4.1,(List.pairwise_cons.1 u4.2.1).2,fun x hx y hy=>u4.2.2 x hx y (List.mem_cons_of_mem _ hy)⟩
    ·intro p hp id eb
     rw[yY];refine(hu p (hG p hp) id eb).bL ?_ ?_
     ·rcases List.mem_append.1 hp with h|h
      ·exact(gd p h).l.news id eb
      ·exact((List.pairwise_cons.1 u4.2.1).1 p h).names id eb
     ·rcases List.mem_append.1 hp with h|h
      ·exact(gd p h).l.C9 id (fS eb)
      ·exact((List.pairwise_cons.1 u4.2.1).1 p h).C9 id eb
    ·by_cases oM:q.idx=i
     ·subst oM
      have dN:q.idx<aV.size:=by rw[ht.size];exact(Array.getElem?_eq_some_iff.1 CY).1
      constructor
      ·rintro ⟨p,hp,he⟩;exact absurd he (eX p hp)
      ·intro h;simp[dN]at h
     ·rw[getD_set_ne true oM,<- ht.mem i]
      constructor
      ·rintro ⟨p,hp,he⟩;exact⟨p,hG p hp,he⟩
      ·rintro ⟨p,hp,he⟩
       refine⟨p,?_,he⟩;rcases List.mem_append.1 hp with h|h
       ·exact List.mem_append_left _ h
       ·rcases List.mem_cons.1 h with rfl|h
        ·exact absurd he oM
        ·exact List.mem_append_right _ h
    ·rw[Array.size_setIfInBounds];exact ht.size
    ·intro k o' hk AA e he hb
     by_cases yR:q.idx=k
     ·subst yR
      rw[CY]at AA;cases AA;exact getD_set_true (lP e he hb)
     ·rw[getD_set_ne false yR]at hk
      exact getD_set_true (ht.closed k o' hk AA e he hb)
end
end Go.PX
