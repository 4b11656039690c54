import Derived.Test.YtmbefpmbnhdbpaaGreatDoorPxE
import Derived.OrdersIn
import Derived.Scope
set_option linter.all false
namespace Go.PX
open Go.RowKit
theorem AA(v:V)(K:V->Prop):BO v K=K v:=by cases v<;>rfl
theorem IG(v:Obj)(K:Obj->Prop):Fl v K=K v:=by
 match v with
 | .box (.dd l)=>exact xU l _
 | .box (.vv l)=>exact rO l _
 | .arr _ (.dd _)=>rfl
 | .arr _ (.vv _)=>rfl
 | .map _=>rfl
 | .iter _ _=>rfl
 | .buf _ _=>rfl
 | .tb _ l=>exact rO l _
 | .mit v n l u=>exact AA v fun v=>K (.mit v n l u)
theorem fM:∀ (l:Env) (K:Env->Prop),eB l K=K l
 | [],K=>rfl
 | (k,v)::r,K=>by
  show BO v (fun v=>eB r fun r=>K ((k,v)::r))=_;rw[AA,fM r]
theorem ja:∀ (l:Heap) (K:Heap->Prop),iA l K=K l
 | [],K=>rfl
 | (k,v)::r,K=>by
  show Fl v (fun v=>iA r fun r=>K ((k,v)::r))=_;rw[IG,ja r]
theorem nj:∀ (l:List Nat) (K:List Nat->Prop),dU l K=K l
 | [],K=>rfl
 | n::r,K=>by
  show dU r (fun r=>K (n::r))=_;rw[nj r]
theorem dM{σ:Type}:∀ (ws:List Wr) (st:St σ),(aR st ws).s=st.s
 | [],_=>rfl
 | w::r,st=>by
  rw[aR,dM r];cases w<;>rfl
theorem cU{σ:Type}(s:σ):∀ (ws:List Wr) (e:Env) (h:Heap) (K:Env->Heap->Prop),bw ws e h K=K (aR (⟨e,h,s⟩:St σ) ws).env (aR (⟨e,h,s⟩:St σ) ws).heap
 | [],e,h,K=>rfl
 | w::r,e,h,K=>by
  cases w with
  | set t v=>show eB (put e t v) (fun e'=>bw r e' h K)=_;rw[fM,cU s r];rfl
  | obj id o=>show iA (put h id o) (fun h'=>bw r e h' K)=_;rw[ja,cU s r];rfl
  | new id o=>
   show eB (cZ (aL (bf id)) e) (fun e'=>iA ((id,o)::cZ (Obj.aL (bf id)) (cut h id)) fun h'=>bw r e' h' K)=_;rw[fM,ja,cU s r];rfl
  | newq id o=>show iA ((id,o)::h) (fun h'=>bw r e h' K)=_;rw[ja,cU s r];rfl
  | del id=>show iA (cut h id) (fun h'=>bw r e h' K)=_;rw[ja,cU s r];rfl
section
variable {P : Program} {T : e7} {e : Env} {h : Heap} {dst : Option Nat} {K : List Wr -> Prop} {ty : TypeId} {pos : String} {after : Array Edge} {guard : Option (Nat × Bool)}
theorem Ce(hT:bA P T){op:Op}(hk:gL T e h dst op K):∃ ws,K ws/\Out P e h ⟨dst,op,ty,pos,after,guard⟩ ws:=by
 cases op;case move=>exact Mq hk
 case assign=>exact Gf hk
 case pick=>exact Ms hk
 case alloc=>exact Jj hT hk
 case box=>exact OJ hk
 case build=>exact Jl hT hk
 case buildSlice=>exact yQ hT hk
 case load=>exact Mp hT hk
 case store=>exact Jr hT hk
 case nilCheck=>exact Ci hk
 case binOp=>exact Jk hT hk
 case unOp=>exact Mt hk
 case convert=>exact Ef hT hk
 case makeFunc=>exact Cg hk
 case fieldAddr=>exact zO hT hk
 case field=>exact Jn hT hk
 case indexAddr=>exact zP hT hk
 case index=>exact Jo hT hk
 case slice=>exact Jq hT hk
 case extract=>exact Eg hk
 case range=>exact Jp hT hk
 case makeInterface=>exact tL hT hk
 case entry=>exact Jm hk
 case typeAssert=>exact yT hT hk
 case next=>exact Mr hk
 case makeMap=>exact Eh hk
 case makeSlice=>exact zQ hT hk
 case lookup=>exact Gh hT hk
 case mapUpdate=>exact zR hT hk
 case insert=>exact Gg hT hk
 case mapEntry=>exact Ch hT hk
 case entryStore=>exact yR hT hk
 all_goals exact(show False from hk).elim
theorem sN(hT:bA P T){b:Builtin}{args:Array Operand}{tys:Array TypeId}(hk:fj T e h dst b args tys K):∃ ws,K ws/\Out P e h ⟨dst,.call ⟨.builtin b,args,tys⟩,ty,pos,after,guard⟩ ws:=by
 cases b;case len=>exact OL hT hk
 case min=>exact ON hk
 case max=>exact OM hk
 case append=>exact Ge hT hk
 case copy=>exact Mo hT hk
 all_goals exact(show False from hk).elim
end
section
variable {P : Program} {T : e7} {σ : Type} {Y : Hd σ} {cx : Cx σ} {r : Option Nat} {m : List Nat} {L : Loc} {F : Nat -> Nat} {a : Act} {w : World}
theorem K5{ops:Array Oper}{e:Env}{h:Heap}{s:σ}{guard:Option (Nat×Bool)}{X Z:List Wr->Prop}(hk:mN ops.toList e guard X Z){dst:Option Nat}{op:Op}{ty:TypeId}{pos:String}{after:Array Edge}
  {st:St σ} (he:dB e st.env) (hg:Good cx r m L F st a w) :
  ∃ ws,((Region.wanted ⟨dst,op,ty,pos,after,guard⟩ (yielded ops a.tmps)=true/\X ws)\/(Region.wanted ⟨dst,op,ty,pos,after,guard⟩ (yielded ops a.tmps)=false/\Z ws)) /\
   (ws = [] \/ ∃ d v,ws = [.set d v]/\get e d=some v):=by
 unfold mN at hk;unfold Region.wanted;split at hk
 ·exact⟨[],.inl ⟨rfl,hk⟩,.inl rfl⟩
 ·rename_i j want
  split at hk;case h_2=>exact hk.elim
  rename_i d _ _ _ _ _ hj;have DB:(ops[j]?).bind (·.dst)=some d:=by
   rw[Array.getElem?_toList]at hj;rw[hj];rfl
  split at hk
  ·rename_i b hb
   obtain⟨x,hx,hr⟩:=hg.env d _ (he _ _ hb);have hr:x = .bool b:=hr;subst hr;have hy:yielded ops a.tmps j=some b:=by
    unfold yielded;rw[DB];simp[hx]
   split at hk
   ·rcases sM hk with⟨rfl,hk⟩|⟨rfl,hk⟩
    ·exact⟨_,.inl ⟨by simp[hy],hk⟩,.inr ⟨d,_,rfl,hb⟩⟩
    ·exact⟨_,.inr ⟨by simp[hy],hk⟩,.inr ⟨d,_,rfl,hb⟩⟩
   ·rcases sM hk with⟨rfl,hk⟩|⟨rfl,hk⟩
    ·exact⟨_,.inr ⟨by simp[hy],hk⟩,.inr ⟨d,_,rfl,hb⟩⟩
    ·exact⟨_,.inl ⟨by simp[hy],hk⟩,.inr ⟨d,_,rfl,hb⟩⟩
  ·rename_i hb
   obtain⟨x,hx,l,rfl,hl⟩:=hg.env d _ (he _ _ hb);have hy:yielded ops a.tmps j=none:=by
    unfold yielded;rw[DB];simp[hx]
   exact⟨[],.inr ⟨by simp[hy],hk⟩,.inl rfl⟩
  ·exact hk.elim
theorem Good.Vt{e:Env}{h:Heap}{s:σ}(hg:Good cx r m L F ⟨e,h,s⟩ a w){ws:List Wr}(hw:ws = [] \/ ∃ d v,ws = [.set d v]/\get e d=some v) :
  Good cx r m L F (aR (⟨e,h,s⟩:St σ) ws) a w/\(aR (⟨e,h,s⟩:St σ) ws).heap=h:=by
 rcases hw with rfl|⟨d,v,rfl,hv⟩
 ·exact⟨hg,rfl⟩
 ·refine⟨hg.sub (e:=put e d v) (h:=h) (fun t u hu=>?_) (fun _ _ h=>h),rfl⟩
  rw[eM]at hu;split at hu
  ·rename_i e1;subst e1;cases hu;exact hv
  ·exact hu
theorem fw{d:Option Nat}(x:Value):(a.put d x).tmps.size=a.tmps.size:=by
 cases d<;>simp[Act.put]
theorem jG{n:Nat}{f:FuncId}{vs:Array Value}{R:Ending->World->Prop}(h:CallsIn Fence.wide n P f vs w R):CallsIn (fr r) n P f vs w R:=h
theorem Gt{n:Nat}{l:Nat}{f:FuncId}{tmps:Array Value}{zq body:Code}{R:Ending->World->Prop}(h:RoundIn Fence.wide n P l f tmps zq body w R):RoundIn (fr r) n P l f tmps zq body w R:=h
def GY(cx:Cx σ)(r:Option Nat)(m:List Nat)(F:Nat->Nat)(w:World)(n:Nat)(K:Env->Heap->σ->Prop):Exit->Act->World->Prop:=fun ex a' w'=>
 ∃ e' h' s' L' F',ex = .normal/\K e' h' s'/\Good cx r m L' F' ⟨e',h',s'⟩ a' w'/\Tr F w F' w'/\a'.tmps.size=n
def na(Y:Hd σ)(cx:Cx σ)(r:Option Nat)(m:List Nat)(F:Nat->Nat)(w:World)(n:Nat)(K:Env->Heap->σ->Prop):Exit->Act->World->Prop:=fun ex a' w'=>
 GY cx r m F w n K ex a' w'\/pr Y cx r F w n ex a' w'
theorem Ej{e:Env}{h:Heap}{o:Oper}{ws:List Wr}(ho:Out P e h o ws){st:St σ}(he:dB e st.env)(hh:dB h st.heap)(hg:Good cx r m L F st a w)(hd:∀ k,o.dst=some k->k<a.tmps.size)
  (tZ:∀ c,o.op ≠ .defer c) {next:Act->World->Prop} {Q:Exit->Act->World->Prop} (hn:∀ x L' F' w',Good cx r m L' F' (aR st ws) (a.put o.dst x) w'->Tr F w F' w'->next (a.put o.dst x) w') :
  o.wpIn (fr r) 0 P a w next Q:=by
 obtain⟨x,w',nx,bN,hx,L',F',dp,tr⟩:=ho cx r m L F st a w he hh hg hd;refine⟨fun _ _=>trivial,?_⟩;rw[Oper.semAt_eq _ _ _ tZ,bN];rcases hx with rfl|⟨rfl,rfl⟩
 ·exact hn x L' F' w' dp tr
 ·exact hn undef L' F' w' dp tr
theorem MU{dst:Option Nat}{op:Op}{e:Env}{h:Heap}{s:σ}{go:Env->Heap->σ->Prop}(hc:∀ c,op ≠ .call c)(hb:∀ b t x y ty,op ≠ .binOp b t x y ty)(hn:∀ x,op ≠ .next x false)(hp:∀ x,op ≠ .panic x) :
  EI P T Y dst op e h s go=gL T e h dst op (fun ws=>bw ws e h fun e h=>go e h s):=by
 cases op;case next x b=>
  cases b
  ·exact absurd rfl (hn _)
  ·rfl
 all_goals first|rfl|exact absurd rfl (hc _)|exact absurd rfl (hb _ _ _ _ _)|exact absurd rfl (hp _)
theorem Mf(hT:bA P T){e:Env}{op:BinOp}{t:TypeId}{x y:Operand}{neg:Bool}{ne:Prop}(hk:Cc T e op t x y=some (neg,ne)){st:St σ}(he:dB e st.env)(hg:Good cx r m L F st a w){dst:Option Nat}{ty ty':TypeId}{pos:String}{after:Array Edge}{guard:Option (Nat×Bool)} :
  ∃ b:Bool,(ne->b=false)/\(execOp a.eval ⟨dst,.binOp op t x y ty',ty,pos,after,guard⟩).run P w = .ok (.value (.bool (Bg neg b))) w:=by
 have zz:∀ {x:Value},isSlice T t=true -> ∃ el,P.underlying t=some (.slice el):=by
  intro _ h;unfold isSlice at h;split at h
  ·rename_i ti ht
   split at h
   ·rename_i el eP
    obtain⟨de,gP,eI⟩:=fp hT ht;rw[eP]at eI;exact⟨el,by rw[gP,fC eI.symm]⟩
   ·cases h
  ·cases h
 have bN:∀ (u:Option Addr) (l c:Nat) (el:TypeId),P.underlying t=some (.slice el)->a.eval x = .slice u l c->y = .const (.slice none 0 0) ->
   ((op = .eql->(execOp a.eval ⟨dst,.binOp op t x y ty',ty,pos,after,guard⟩).run P w = .ok (.value (.bool u.isNone)) w)/\(op = .neq->(execOp a.eval ⟨dst,.binOp op t x y ty',ty,pos,after,guard⟩).run P w = .ok (.value (.bool (!u.isNone))) w)):=by
  intro u l c el hu hx hy;subst hy;have hey:a.eval (.const (.slice none 0 0)) = .slice none 0 0:=rfl;have hq:(Op.equal t (.slice u l c) (.slice none 0 0)).run P w = .ok u.isNone w:=by
   rw[Op.equal,show Op.maxDepth=9999+1 from rfl,Op.equalIn];cases u<;>simp[run_underlying hu]
  refine⟨fun ho=>?_,fun ho=>?_⟩<;>subst ho<;>simp[execOp,hx,hey,eqGuard,binOp,hq]
 have P7:∀ {es:List (List D)},aS e x=some (.d (.vs es)) -> ∃ u l c,a.eval x = .slice u l c/\(es ≠ []->u.isNone=false):=by
  intro es hx;obtain⟨u,l,c,h1,h2,h3,h4⟩:=hg.aS (aF he hx);refine⟨u,l,c,h1,fun eW=>?_⟩;obtain⟨b,off,sz,h5,_⟩:=h4 eW;rw[h5];rfl
 have Vb:∀ {id sz off n:Nat},aS e x=some (.sl id sz off n) -> ∃ u l c,a.eval x = .slice u l c/\(0<n->u.isNone=false):=by
  intro id sz off n hx;obtain⟨u,c,h1,h2,h3,h4⟩:=hg.aS (aF he hx);refine⟨u,n,c,h1,fun hn=>?_⟩;rcases h4 with⟨h4,_⟩|⟨h4,_⟩
  ·omega
  ·rw[h4];rfl
 unfold Cc at hk;split at hk
 ·rename_i hs hx
  cases hk;obtain⟨el,hu⟩:=zz (x:=undef) hs;obtain⟨u,l,c,h1,h2⟩:=P7 hx;exact⟨u.isNone,h2,(bN u l c el hu h1 rfl).1 rfl⟩
 ·rename_i hs hx
  cases hk;obtain⟨el,hu⟩:=zz (x:=undef) hs;obtain⟨u,l,c,h1,h2⟩:=P7 hx;exact⟨u.isNone,h2,(bN u l c el hu h1 rfl).2 rfl⟩
 ·rename_i hs hx
  cases hk;obtain⟨el,hu⟩:=zz (x:=undef) hs;obtain⟨u,l,c,h1,h2⟩:=Vb hx;exact⟨u.isNone,h2,(bN u l c el hu h1 rfl).1 rfl⟩
 ·rename_i hs hx
  cases hk;obtain⟨el,hu⟩:=zz (x:=undef) hs;obtain⟨u,l,c,h1,h2⟩:=Vb hx;exact⟨u.isNone,h2,(bN u l c el hu h1 rfl).2 rfl⟩
 ·rename_i hs hx
  cases hk;obtain⟨el,hu⟩:=zz (x:=undef) hs;have h1:a.eval x = .slice none 0 0:=hg.aS (aF he hx);exact⟨false,fun _=>rfl,(bN none 0 0 el hu h1 rfl).1 rfl⟩
 ·rename_i hs hx
  cases hk;obtain⟨el,hu⟩:=zz (x:=undef) hs;have h1:a.eval x = .slice none 0 0:=hg.aS (aF he hx);exact⟨false,fun _=>rfl,(bN none 0 0 el hu h1 rfl).2 rfl⟩
 ·cases hk
theorem H3{t:TypeId}{n:String}{g:FuncId}(hm:∀ v w,(method (P.types.size+Made.depth) t v n).run P w = .ok (g,v) w)(qT:∀ (vs:Array Value) (w:World),(callFunc g vs).run P w = .ok (.enter g vs) w){a:Act}{f:Operand}{y:Value}(dC:a.eval f = .iface t y){w:World}
  {dst:Option Nat} {args:Array Operand} {tys:Array TypeId} {ty:TypeId} {pos:String} {after:Array Edge} {guard:Option (Nat×Bool)} :
  (execOp a.eval ⟨dst,.call ⟨.invoke f n,args,tys⟩,ty,pos,after,guard⟩).run P w = .ok (.enter g (#[y]++args.map a.eval)) w:=by
 have hx:(#[a.eval f]++args.map a.eval).extract 1 (#[a.eval f]++args.map a.eval).size=args.map a.eval:=by
  apply Array.ext';simp only[Array.toList_extract,Array.toList_append,Array.toList_map,Array.size_append,Array.size_map];simp[List.extract];rw[List.take_of_length_le (by simp)]
 have h0:(#[a.eval f]++args.map a.eval)[0]?=some (.iface t y):=by
  rw[<- dC,Array.getElem?_append_left (by simp)];rfl
 simp only[execOp,resolve,Sem.run_bind,Sem.run_pure,Result.andThen_ok,invoke,h0,hx,callMethod];simp[program,Sem.run,Sem.run_bind,hm,qT]
theorem DS{e:Env}{h:Heap}{s:σ}{cx:Cx σ}{r:Option Nat}{m:List Nat}{L:Loc}{F:Nat->Nat}{a:Act}{w:World}(hg:Good cx r m L F ⟨e,h,s⟩ a w){args:Array Operand}{l':List V}(hl:dR e args.toList=some l'){v:D}{y:Value}(hv:bM F w v y) :
  aq cx.yv L F w (.d v::l') (#[y]++args.map a.eval).toList:=by
 refine⟨y,args.toList.map a.eval,by simp,hv,hg.dR hl⟩
theorem EA{w:World}{rv:Nat}{m:Nat}{n:Nat}{seen:Array Nat}{en:Array MapEntry}{c:Nat}{ty:TypeId}(hr:w.heap[rv]?=some (.mapIter (some m) n seen n))(hm:w.heap[m]?=some (.map en c))(hb:sA en c)(hn:en.size=n) :
  ((∀ i,i<n->seen.contains i=true)/\(∃ d,(Instr.next (.pointer (some ⟨rv,0,none⟩)) false ty).run P w = .ok (.tuple #[.bool false]) { w with drawn:=d })) \/
  (∃ (i:Nat) (e:MapEntry) (d:Nat),i<n/\seen.contains i=false/\en[i]?=some e/\(Instr.next (.pointer (some ⟨rv,0,none⟩)) false ty).run P w = .ok (.tuple #[.bool true,e.key,e.val]) { w with drawn:=d,heap:=w.heap.setIfInBounds rv (.mapIter (some m) n (seen.push i) n) }):=by
 have Lc:c=n:=by rw[hb.1,hn]
 subst Lc;have Dx:∀ (i:Nat) (e:MapEntry),en[i]?=some e->e.born=i:=hb.2;have cn:(!seen.isEmpty && !en.isEmpty&&en.all (·.born≥c))=false:=by
  by_cases he:en.size=0
  ·have:en = #[]:=Array.eq_empty_of_size_eq_zero he
   subst this;simp
  ·have h0:en[0]?=some en[0]:=Array.getElem?_eq_getElem (by omega)
   have iN:=Dx 0 _ h0;have:en.all (·.born≥c)=false:=by
    rw[Array.all_eq_false];exact⟨0,by omega,by rw[iN];simp;omega⟩
   simp[this]
 have tf:((en.filter fun e=>!seen.contains e.born).filter (·.born≥c)) = #[]:=by
  rw[Array.filter_eq_empty_iff];intro e he;obtain⟨he,_⟩:=Array.mem_filter.1 he;obtain⟨i,hi,rfl⟩:=Array.mem_iff_getElem.1 he;have:=Dx i _ (Array.getElem?_eq_getElem hi);simp[this];omega
 have hold:((en.filter fun e=>!seen.contains e.born).filter (·.born<c))=en.filter fun e=>!seen.contains e.born:=by
  rw[Array.filter_eq_self];intro e he;obtain⟨he,_⟩:=Array.mem_filter.1 he;obtain⟨i,hi,rfl⟩:=Array.mem_iff_getElem.1 he;have:=Dx i _ (Array.getElem?_eq_getElem hi);simp[this];omega
 generalize mu:(en.filter fun e=>!seen.contains e.born)=left at tf hold;by_cases hz:left = #[]
 ·left
  refine⟨fun i hi=>?_,w.drawn,?_⟩
  ·have he:en[i]?=some en[i]:=Array.getElem?_eq_getElem (by omega)
   have mq:=Dx i _ he
   cases hs:seen.contains i with
   | true=>rfl
   | false=>
    exfalso;have:en[i]∈en.filter fun e=>!seen.contains e.born:=Array.mem_filter.2 ⟨Array.getElem_mem _,by rw[mq,hs];rfl⟩;rw[mu,hz]at this;simp at this
  ·simp only[Instr.next,getObj,Sem.run_bind,Sem.run,hr,Result.andThen,hm]
   simp only[cn,mu,hold,tf];subst hz;simp[choose,Sem.run,Sem.run_bind,Question.forced]
 ·right
  have we:0<left.size:=Nat.pos_of_ne_zero fun h=>hz (Array.eq_empty_of_size_eq_zero h);have IP:left.isEmpty=false:=by
   rw[Array.isEmpty_eq_false_iff];exact hz
  have pick:∀ (j d:Nat),j<left.size -> ∃ (i:Nat) (e:MapEntry),i<c/\seen.contains i=false/\en[i]?=some e/\left[j]?=some e/\e.born=i:=by
   intro j d hj;have iP:left[j]∈(en.filter fun e=>!seen.contains e.born):=by rw[mu];exact Array.getElem_mem _
   obtain⟨iP,hs⟩:=Array.mem_filter.1 iP;obtain⟨i,hi,he⟩:=Array.mem_iff_getElem.1 iP;have mq:=Dx i _ (Array.getElem?_eq_getElem hi);refine⟨i,en[i],by omega,?_,Array.getElem?_eq_getElem hi,?_,mq⟩
   ·rw[<- he,mq]at hs
    simpa using hs
   ·rw[he];exact Array.getElem?_eq_getElem hj
  have fin:∀ (j d:Nat),j<left.size->((Instr.next (.pointer (some ⟨rv,0,none⟩)) false ty).run P w=(match ((#[]:Array (Option MapEntry))++(left ++ #[]).map some)[j]? with
    | some (some e)=>(do setObj rv (.mapIter (some m) c (seen.push e.born) c);pure (.tuple #[.bool true,e.key,e.val]):Sem Value)
    | some none=>pure (.tuple #[.bool false])
    | none => stuck "Next: no such candidate").run P { w with drawn := d }) -> ∃ (i : Nat) (e : MapEntry) (d : Nat), i < c /\ seen.contains i = false /\ en[i]? = some e /\ (Instr.next (.pointer (some ⟨rv, 0, none⟩)) false ty).run P w = .ok (.tuple #[.bool true, e.key, e.val]) { w with drawn := d, heap := w.heap.setIfInBounds rv (.mapIter (some m) c (seen.push i) c) } := by
   intro j d hj bN;obtain⟨i,e,h1,h2,h3,h4,h5⟩:=pick j d hj;refine⟨i,e,d,h1,h2,h3,?_⟩;rw[bN];have:((#[]:Array (Option MapEntry))++(left ++ #[]).map some)[j]?=some (some e):=by simp[h4]
   simp only[this,h5];simp[setObj,Sem.run,Sem.run_bind,hr]
  by_cases hf:(Question.mapNext left.size).forced=true
  ·refine fin 0 w.drawn we ?_
   simp only[Instr.next,getObj,Sem.run_bind,Sem.run,hr,Result.andThen,hm];simp only[cn,mu,hold,tf,IP];simp[choose,Sem.run,Sem.run_bind,hf];rfl
  ·refine fin (w.tape w.drawn (.mapNext left.size)%left.size) (w.drawn+1) (Nat.mod_lt _ we) ?_
   simp only[Instr.next,getObj,Sem.run_bind,Sem.run,hr,Result.andThen,hm];simp only[cn,mu,hold,tf,IP];simp[choose,Sem.run,Sem.run_bind,hf,Question.cut];rfl
theorem Ga{dst:Option Nat}{x:Operand}{ty:TypeId}{pos:String}{after:Array Edge}{guard:Option (Nat×Bool)}{e:Env}{h:Heap}{s:σ}{go:Env->Heap->σ->Prop}{L:Loc}{F:Nat->Nat}{a:Act}{w:World}
  (hg:Good cx r m L F ⟨e,h,s⟩ a w) (BT:∀ d,dst=some d->d<a.tmps.size) (hk:Md dst x e h s go)
  {next:Act->World->Prop} {Q:Exit->Act->World->Prop} (bU:∀ e' h' s' L' F' a' w',Good cx r m L' F' ⟨e',h',s'⟩ a' w'->a'.tmps.size=a.tmps.size->Tr F w F' w'->go e' h' s'->next a' w') :
  Oper.wpIn (fr r) 0 P ⟨dst,.next x false,ty,pos,after,guard⟩ a w next Q:=by
 unfold Md at hk;split at hk;case h_2=>exact hk.elim
 rename_i id hx;split at hk;case h_2=>exact hk.elim
 rename_i v n todo cur hid;split at hk;case h_2=>exact hk.elim
 rename_i cJ zw;obtain⟨hn,h0,h1⟩:=hk;have dC:a.eval x = .pointer (some ⟨L.ρ id,0,none⟩):=hg.aS hx;obtain⟨rb,seen,hv,hb,LK,_⟩:=hg.heap.obj id _ hid;obtain⟨en,c,hm,hr,qR⟩:=LW hg (fun _ _ h=>h) zw hv;have dc:en.size=n:=by rw[<- hn];simpa using bW.get hr
 refine⟨fun _ _=>trivial,?_⟩;rw[Oper.semAt_eq _ _ _ (fun c e=>by cases e)];rcases EA (P:=P) (ty:=ty) hb hm qR dc with⟨cn,d,bN⟩|⟨i,zE,d,hi,hs,Ht,bN⟩
 ·have SN:todo = []:=by
   rw[List.eq_nil_iff_forall_not_mem];intro i hi;obtain⟨h2,h3⟩:=(LK i).1 hi;rw[cn i h2]at h3;cases h3
  have hk:=h0 SN;have DL:(execOp a.eval ⟨dst,.next x false,ty,pos,after,guard⟩).run P w = .ok (.value (.tuple #[.bool false])) { w with drawn:=d }:=by simp[execOp,dC,bN]
  rw[DL];have eo:=hg.same (w':={ w with drawn:=d }) rfl rfl rfl rfl;have gC:=eo.bz (d:=dst) (v:=.d (.tup [.bool false])) (x:=.tuple #[.bool false]) BT ⟨_,rfl,_,_,rfl,rfl,rfl⟩;simp only at hk;rw[cU s]at hk;have mY:(aR (⟨e,h,s⟩:St σ) (bz dst (.d (.tup [.bool false])))).s=s:=dM _ _;generalize (aR (⟨e,h,s⟩:St σ) (bz dst (.d (.tup [.bool false]))))=o7 at hk gC mY;obtain⟨e2,h2,s2⟩:=o7;simp only at hk mY;subst mY;exact bU _ _ _ _ _ _ _ gC (fw _) (Tr.drew d) hk
 ·have ic:i∈todo:=(LK i).2 ⟨hi,hs⟩
  obtain⟨k,u,Xb,rh,hur⟩:∃ k u,cJ[i]?=some (k,u)/\bM F w k zE.key/\bM F w u zE.val:=bW.at hr (by simpa using Ht);have hk:=h1 i (k,u) ic Xb;simp only at hk;have DL:(execOp a.eval ⟨dst,.next x false,ty,pos,after,guard⟩).run P w = .ok (.value (.tuple #[.bool true,zE.key,zE.val])) { w with drawn:=d,heap:=w.heap.setIfInBounds (L.ρ id) (.mapIter (some rb) n (seen.push i) n) }:=by simp[execOp,dC,bN]
  rw[DL];have eo:=hg.same (w':={ w with drawn:=d }) rfl rfl rfl rfl;have dN:=(Array.getElem?_eq_some_iff.1 hb).1;have Pa:Tr F w F { w with drawn:=d }:=Tr.drew d;have sy:Tr F w F { w with drawn:=d,heap:=w.heap.setIfInBounds (L.ρ id) (.mapIter (some rb) n (seen.push i) n) }:=by
   refine .iI rfl rfl rfl (by simp) (fun _=>Nat.le_refl _) hg.heap.fresh fun b _ hF=>?_;have:L.ρ id≠b:=by rintro rfl;have:=(hg.heap.own id _ hid trivial).1;omega
   simp[Array.getElem?_setIfInBounds_ne this]
  obtain⟨g1,g2⟩:=eo.obj (o:=.mit v n (todo.filter fun j=>!Nat.beq j i) (some i)) (id:=id) hid trivial (w':={ w with drawn:=d,heap:=w.heap.setIfInBounds (L.ρ id) (.mapIter (some rb) n (seen.push i) n) }) rfl rfl rfl (by simp) (fun y hy=>by simp[Array.getElem?_setIfInBounds_ne (Ne.symm hy)])
   (by intro ds;show w.heap[L.ρ id]?≠_;rw[hb];intro e;cases e) (by intro lp;show w.heap[L.ρ id]?≠_;rw[hb];intro e;cases e)
   ⟨rb,seen.push i,bg.mono sy v _ (fun _ _=>⟨rfl,rfl⟩) hv,by simp[Array.getElem?_setIfInBounds,dN],fun j=>by
    have BX:Nat.beq j i=false↔j≠i:=by
     rw[Bool.eq_false_iff];exact⟨fun h e=>h (by subst e;simp),fun h e=>h (Nat.eq_of_beq_eq_true e)⟩
    simp only[List.mem_filter,LK,Bool.not_eq_true',BX,Array.contains_push,Bool.or_eq_false_iff,beq_eq_false_iff_ne];constructor
    ·rintro ⟨⟨p1,p2⟩,p3⟩;exact⟨p1,p2,fun e=>p3 e⟩
    ·rintro ⟨p1,p2,p3⟩;exact⟨⟨p1,p2⟩,fun e=>p3 e⟩,fun j ej=>by cases ej;simp⟩
  have gC:=g1.bz (d:=dst) (v:=.d (.tup [.bool true,k,u])) (x:=.tuple #[.bool true,zE.key,zE.val]) BT ⟨_,rfl,_,_,rfl,rfl,_,_,rfl,bM.mono sy _ _ rh,_,_,rfl,bM.mono sy _ _ hur,rfl⟩;rw[cU s]at hk;have mY:(aR (⟨e,h,s⟩:St σ) (.obj id (.mit v n (todo.filter fun j=>!Nat.beq j i) (some i))::bz dst (.d (.tup [.bool true,k,u])))).s=s:=dM _ _;have key:∀ (o7:St σ),Good cx r m L F o7 (a.put dst (.tuple #[.bool true,zE.key,zE.val])) { w with drawn:=d,heap:=w.heap.setIfInBounds (L.ρ id) (.mapIter (some rb) n (seen.push i) n) }->o7.s=s->go o7.env o7.heap s->next (a.put dst (.tuple #[.bool true,zE.key,zE.val])) { w with drawn:=d,heap:=w.heap.setIfInBounds (L.ρ id) (.mapIter (some rb) n (seen.push i) n) }:=by
   rintro ⟨e2,h2,s2⟩ q1 q2 q3;simp only at q2 q3;subst q2;exact bU _ _ _ _ _ _ _ q1 (fw _) sy q3
  exact key _ gC mY hk
theorem zp(hT:bA P T)(hY:ct P Y cx){ops:Array Oper}{i:Nat}{dst:Option Nat}{op:Op}{ty:TypeId}{pos:String}{after:Array Edge}{guard:Option (Nat×Bool)}(h0:ops[i]?=some ⟨dst,op,ty,pos,after,guard⟩){e:Env}{h:Heap}{s:σ}{go:Env->Heap->σ->Prop}{L:Loc}{F:Nat->Nat}{a:Act}{w:World}
  (hg:Good cx r m L F ⟨e,h,s⟩ a w) (BT:∀ d,dst=some d->d<a.tmps.size)
  (hk:mN ops.toList e guard (fun w=>bw w e h fun e h=>EI P T Y dst op e h s go) (fun w=>bw w e h fun e h=>bw (bz dst (.d (.tup []))) e h fun e h=>go e h s))
  {next:Act->World->Prop} {Q:Exit->Act->World->Prop} (bU:∀ e' h' s' L' F' a' w',Good cx r m L' F' ⟨e',h',s'⟩ a' w'->a'.tmps.size=a.tmps.size->Tr F w F' w'->go e' h' s'->next a' w') (Oe:∀ e a' w',pr Y cx r F w a.tmps.size e a' w'->Q e a' w'):wpOpIn (fr r) 0 P ops Q i next a w:=by
  simp only[wpOpIn,h0];obtain⟨WS,hgw,FB⟩:=K5 (s:=s) (h:=h) (dst:=dst) (op:=op) (ty:=ty) (pos:=pos) (after:=after) hk (fun _ _ h=>h) hg;clear hk;obtain⟨eo,DA⟩:=hg.Vt FB;rcases hgw with⟨hw,hk⟩|⟨hw,hk⟩
  ·rw[hw]
   simp only[if_true];rw[cU s]at hk;have J0:(aR (⟨e,h,s⟩:St σ) WS).s=s:=dM _ _;generalize (aR (⟨e,h,s⟩:St σ) WS)=tR at hk eo J0;obtain⟨e1,h1,s1⟩:=tR;simp only at hk J0;subst J0;have fin:∀ {o:Oper} {ws:List Wr},o=⟨dst,op,ty,pos,after,guard⟩->Out P e1 h1 o ws->bw ws e1 h1 (fun e h=>go e h s1)->(∀ c,op ≠ .defer c) ->
     Oper.wpIn (fr r) 0 P ⟨dst,op,ty,pos,after,guard⟩ a w next Q:=by
    intro o ws ho fB hk tZ;subst ho;refine Ej fB (st:=⟨e1,h1,s1⟩) (fun _ _ h=>h) (fun _ _ h=>h) eo BT tZ fun x L' F' w' dp mV=>?_;rw[cU s1]at hk;have mY:(aR (⟨e1,h1,s1⟩:St σ) ws).s=s1:=dM _ _;generalize (aR (⟨e1,h1,s1⟩:St σ) ws)=o7 at hk dp mY;obtain⟨e2,h2,s2⟩:=o7;simp only at hk mY;subst mY;exact bU _ _ _ _ _ _ _ dp (fw _) mV hk
   by_cases ea:∃ c,op = .call c
   ·obtain⟨⟨callee,args,tys⟩,rfl⟩:=ea
    cases callee with
    | builtin b=>
     obtain⟨ws,hk,fB⟩:=sN (P:=P) (e:=e1) (h:=h1) (dst:=dst) (b:=b) (args:=args) (tys:=tys) (K:=fun ws=>bw ws e1 h1 fun e h=>go e h s1) (ty:=ty) (pos:=pos) (after:=after) (guard:=guard) hT hk;exact fin rfl fB hk (fun c e=>by cases e)
    | invoke f n=>
     have hk:RV P Y dst f n args.toList e1 h1 s1 go:=hk;unfold RV at hk;split at hk;case h_2=>exact hk.elim
     rename_i t v l' hf wJ;obtain⟨g,hm,hk⟩:=hk;obtain⟨qT,ea⟩:=hk;obtain⟨y,dC,hv⟩:=eo.aS hf;have dx:=DS eo wJ hv;have ea:=ea cx hY r m L F a w (#[y]++args.map a.eval) eo BT dx;have bN:=H3 (P:=P) hm qT dC (w:=w) (dst:=dst) (args:=args) (tys:=tys) (ty:=ty) (pos:=pos) (after:=after) (guard:=guard);refine⟨fun _ _=>trivial,?_⟩;rw[Oper.semAt_eq _ _ _ (fun c e=>by cases e),bN,Oper.uponIn_enter];refine⟨(fun h=>by cases h),(jG ea).mono ?_⟩;rintro en w' (⟨x,rfl,st',L',F',jj,dp,mV⟩|⟨pv,pe,ph,ps,L',F',rfl,hy,N2,Pb⟩);case inr=>exact Oe _ _ _ ⟨pv,pe,ph,ps,m,L',F',rfl,hy,N2,Pb,rfl⟩
     obtain⟨e2,h2,s2⟩:=st';exact bU _ _ _ _ _ _ _ dp (fw _) mV jj
    | value f=>
     have hk:Kx P Y dst f args.toList e1 h1 s1 (go):=hk;unfold Kx at hk;have call:∀ (g:FuncId) (CY:List V) (lc:Array Value) (l':List V),dR e1 args.toList=some l'->a.eval f = .func (.func g) #[] lc->aq cx.yv L F w CY lc.toList ->
       dO P Y ⟨e1,h1,s1⟩ dst g (l'++CY) (fun|⟨e,h,s⟩=>go e h s) ->
       Oper.wpIn (fr r) 0 P ⟨dst,.call ⟨.value f,args,tys⟩,ty,pos,after,guard⟩ a w next Q:=by
      intro g CY lc l' wJ dC j7 hc;obtain⟨qT,ea⟩:=hc;have dx:aq cx.yv L F w (l'++CY) (args.map a.eval++lc).toList:=by
       simpa using (eo.dR wJ).append j7
      have ea:=ea cx hY r m L F a w (args.map a.eval++lc) eo BT dx;have bN:(execOp a.eval ⟨dst,.call ⟨.value f,args,tys⟩,ty,pos,after,guard⟩).run P w = .ok (.enter g (args.map a.eval++lc)) w:=by
       simp[execOp,resolve,Deferred.ofValue,dC,invoke,qT]
      refine⟨fun _ _=>trivial,?_⟩;rw[Oper.semAt_eq _ _ _ (fun c e=>by cases e),bN,Oper.uponIn_enter];refine⟨(fun h=>by cases h),(jG ea).mono ?_⟩;rintro en w' (⟨x,rfl,st',L',F',jj,dp,mV⟩|⟨pv,pe,ph,ps,L',F',rfl,hy,N2,Pb⟩);case inr=>exact Oe _ _ _ ⟨pv,pe,ph,ps,m,L',F',rfl,hy,N2,Pb,rfl⟩
      obtain⟨e2,h2,s2⟩:=st';exact bU _ _ _ _ _ _ _ dp (fw _) mV jj
     split at hk
     ·rename_i g bS l' hf wJ
      obtain⟨lc,dC,j7⟩:=eo.aS hf;exact call g (inj bS) lc l' wJ dC (aq.inj.2 j7) hk
     ·rename_i g bS l' hf wJ
      obtain⟨lc,dC,j7⟩:=eo.aS hf;exact call g bS lc l' wJ dC j7 hk
     ·rename_i g first l' hf wJ
      obtain⟨lf,dC,BV⟩:=eo.aS hf;obtain⟨qT,ea⟩:=hk;have dx:aq cx.yv L F w (inj first++l') (lf++args.map a.eval).toList:=by
       simpa using (aq.inj.2 BV).append (eo.dR wJ)
      have ea:=ea cx hY r m L F a w (lf++args.map a.eval) eo BT dx;have bN:(execOp a.eval ⟨dst,.call ⟨.value f,args,tys⟩,ty,pos,after,guard⟩).run P w = .ok (.enter g (lf++args.map a.eval)) w:=by
       simp[execOp,resolve,Deferred.ofValue,dC,invoke,qT]
      refine⟨fun _ _=>trivial,?_⟩;rw[Oper.semAt_eq _ _ _ (fun c e=>by cases e),bN,Oper.uponIn_enter];refine⟨(fun h=>by cases h),(jG ea).mono ?_⟩;rintro en w' (⟨x,rfl,st',L',F',jj,dp,mV⟩|⟨pv,pe,ph,ps,L',F',rfl,hy,N2,Pb⟩);case inr=>exact Oe _ _ _ ⟨pv,pe,ph,ps,m,L',F',rfl,hy,N2,Pb,rfl⟩
      obtain⟨e2,h2,s2⟩:=st';exact bU _ _ _ _ _ _ _ dp (fw _) mV jj
     ·rename_i l' hf wJ
      obtain⟨lp,E0,dC⟩:=eo.aS hf;obtain⟨hc⟩:=hk;have dx:aq cx.yv L F w l' (args.map a.eval).toList:=by simpa using eo.dR wJ
      obtain⟨fn,tmps,zq,body,DL,Rz⟩:=hc cx hY lp E0 r m L F a w (args.map a.eval) eo BT dx;have bN:(execOp a.eval ⟨dst,.call ⟨.value f,args,tys⟩,ty,pos,after,guard⟩).run P w = .ok (.round lp fn tmps zq body) w:=by
       simp[execOp,resolve,Deferred.ofValue,dC,invoke,DL]
      refine⟨fun _ _=>trivial,?_⟩;rw[Oper.semAt_eq _ _ _ (fun c e=>by cases e),bN,Oper.uponIn_round];refine⟨(fun h=>by cases h),(Gt Rz).mono ?_⟩;rintro en w' ⟨x,rfl,st',L',F',jj,dp,mV⟩;obtain⟨e2,h2,s2⟩:=st';exact bU _ _ _ _ _ _ _ dp (fw _) mV jj
     ·exact hk.elim
   ·by_cases Ux:∃ b t x y ty,op = .binOp b t x y ty
    ·obtain⟨b,t,x,y,ty',rfl⟩:=Ux
     have hk:(match Cc T e1 b t x y with
      | some (neg,ne)=>S2 neg ne fun b=>bw (bz dst (.d (.bool b))) e1 h1 fun e h=>go e h s1
      | none=>gL T e1 h1 dst (.binOp b t x y ty') fun ws=>bw ws e1 h1 fun e h=>go e h s1):=hk
     split at hk
     ·rename_i neg ne hn
      obtain⟨hk⟩:=hk;obtain⟨bb,pa,bN⟩:=Mf (P:=P) hT hn (st:=⟨e1,h1,s1⟩) (fun _ _ h=>h) eo (dst:=dst) (ty:=ty) (ty':=ty') (pos:=pos) (after:=after) (guard:=guard);have hk:=hk bb pa;have gC:=eo.bz (d:=dst) (v:=.d (.bool (Bg neg bb))) (x:=.bool (Bg neg bb)) BT rfl;refine⟨fun _ _=>trivial,?_⟩;rw[Oper.semAt_eq _ _ _ (fun c e=>by cases e),bN];rw[cU s1]at hk;have mY:(aR (⟨e1,h1,s1⟩:St σ) (bz dst (.d (.bool (Bg neg bb))))).s=s1:=dM _ _;generalize (aR (⟨e1,h1,s1⟩:St σ) (bz dst (.d (.bool (Bg neg bb)))))=o7 at hk gC mY;obtain⟨e2,h2,s2⟩:=o7;simp only at hk mY;subst mY;exact bU _ _ _ _ _ _ _ gC (fw _) (Tr.refl F w) hk
     ·obtain⟨ws,hk,fB⟩:=Ce (P:=P) (ty:=ty) (pos:=pos) (after:=after) (guard:=guard) hT hk
      exact fin rfl fB hk (fun c e=>by cases e)
    by_cases AI:∃ x,op = .next x false
    ·obtain⟨x,rfl⟩:=AI
     exact Ga (P:=P) (ty:=ty) (pos:=pos) (after:=after) (guard:=guard) eo BT hk bU
    by_cases PZ:∃ x,op = .panic x
    ·obtain⟨x,rfl⟩:=PZ
     have hk:Sd Y x e1 h1 s1:=hk;unfold Sd at hk;split at hk;case h_2=>exact hk.elim
     rename_i t k n hx;have dC:a.eval x = .iface t (.int k n):=by
      obtain⟨y,h2,h3⟩:=eo.aS hx;have h3:y = .int k n:=h3;rw[h2,h3]
     refine⟨fun _ _=>trivial,?_⟩;have bN:(execOp a.eval ⟨dst,.panic x,ty,pos,after,guard⟩).run P w = .halt (.panic (.iface t (.int k n))) w:=by
      simp[execOp,dC,Instr.panic,goPanic]
     rw[Oper.semAt_eq _ _ _ (fun c e=>by cases e),bN];exact Oe _ _ _ ⟨_,e1,h1,s1,m,L,F,rfl,hk,eo,Tr.refl F w,rfl⟩
    rw[MU (fun c hc=>ea ⟨c,hc⟩) (fun b t x y ty hc=>Ux ⟨b,t,x,y,ty,hc⟩) (fun x hc=>AI ⟨x,hc⟩) (fun x hc=>PZ ⟨x,hc⟩)]at hk;have tZ:∀ c,op ≠ .defer c:=fun c hc=>by subst hc;exact hk
    obtain⟨ws,hk,fB⟩:=Ce (P:=P) (ty:=ty) (pos:=pos) (after:=after) (guard:=guard) hT hk;exact fin rfl fB hk tZ
  ·rw[hw]
   simp only[Bool.false_eq_true,if_false];refine⟨fun _ _=>trivial,?_⟩;rw[cU s]at hk;have J0:(aR (⟨e,h,s⟩:St σ) WS).s=s:=dM _ _;generalize (aR (⟨e,h,s⟩:St σ) WS)=tR at hk eo J0;obtain⟨e1,h1,s1⟩:=tR;simp only at hk J0;subst J0;rw[cU s1]at hk;have gC:=eo.bz (d:=dst) (v:=.d (.tup [])) (x:=undef) BT ⟨#[],rfl,rfl⟩;have mY:(aR (⟨e1,h1,s1⟩:St σ) (bz dst (.d (.tup [])))).s=s1:=dM _ _;generalize (aR (⟨e1,h1,s1⟩:St σ) (bz dst (.d (.tup []))))=o7 at hk gC mY;obtain⟨e2,h2,s2⟩:=o7;simp only at hk mY;subst mY;exact bU _ _ _ _ _ _ _ gC (fw _) (Tr.refl F w) hk
theorem mD(hT:bA P T)(hY:ct P Y cx){ops:Array Oper}{F0:Nat->Nat}{w0:World}{n0:Nat}:∀ (l:List Oper) (i:Nat) (hl:∀ j,l[j]?=ops[i+j]?) {e:Env} {h:Heap} {s:σ} {K:Env->Heap->σ->Prop} {L:Loc} {F:Nat->Nat} {a:Act} {w:World},
  Good cx r m L F ⟨e,h,s⟩ a w->a.tmps.size=n0->(∀ o∈l,∀ d,o.dst=some d->d<n0)->Tr F0 w0 F w->wpOps P T Y ops.toList l e h s K ->
  wpOpsIn (fr r) 0 P ops (na Y cx r m F0 w0 n0 K) (List.range' i l.length) a w
 | [],i,hl,e,h,s,K,L,F,a,w,hg,hs,hd,tr,hk=>.inl ⟨e,h,s,L,F,rfl,hk,hg,tr,hs⟩
 | ⟨dst,op,ty,pos,after,guard⟩::l,i,hl,e,h,s,K,L,F,a,w,hg,hs,hd,tr,hk=>by
  rw[wpOps_cons]at hk;have h0:ops[i]?=some ⟨dst,op,ty,pos,after,guard⟩:=by simpa using (hl 0).symm
  have kM:∀ j,l[j]?=ops[i+1+j]?:=fun j=>by have:=hl (j+1);simpa[Nat.add_assoc,Nat.add_comm 1 j]using this
  have BT:∀ d,dst=some d->d<a.tmps.size:=fun d NZ=>by rw[hs];exact hd _ (List.mem_cons_self ..) d NZ
  have Nj:∀ o∈l,∀ d,o.dst=some d->d<n0:=fun o ho=>hd o (List.mem_cons_of_mem _ ho);rw[List.length_cons,List.range'_succ,wpOpsIn_cons];exact zp hT hY h0 hg BT hk (fun e' h' s' L' F' a' w' dp RB mV jj=>mD hT hY l (i+1) kM dp (RB.trans hs) Nj (Tr.trans tr mV) jj) fun e' a' w' hp=>.inr (hp.trans tr hs)
end
section
variable {F : Fence} {n : Nat} {P : Program} {Q : Exit -> Act -> World -> Prop} {a : Act} {w : World} {b : Frame} {k : List Item} {cs : List Frame}
theorem jg{c:Code}:step P (lone (b.atR a (.code (.scope c)::k)) cs w) = .next (lone (b.atR a (.code c :: .inScope c::k)) cs w):=
 step_lone_go (by simp[stepG,stepG.exec,Frame.atR])
theorem zV{c:Code}:step P (lone (b.atR a (.inScope c::k)) cs w) = .next (lone (b.atR a k) cs w):=
 step_lone_go (by simp[stepG,stepG.exec,Frame.atR])
theorem GR{c:Code}(h:c.wpIn F n P (Exit.noGoto Q) a w):(Code.scope c).wpIn F n P Q a w:=by
 intro b k cs hro hb hr;have h0:(lone (b.atR a (.code (.scope c)::k)) cs w).fenced P F:=fenced_calm hb hr rfl;obtain⟨e,a₁,w₁,hq,IM⟩:=h b (.inScope c::k) cs hro hb hr
 cases e with
 | normal=>exact⟨.normal,a₁,w₁,hq,.head h0 jg (StepsIn.trans IM (.one (fenced_calm hb hr rfl) zV))⟩
 | exit oA=>
  have hx:exitTo oA (.inScope c::k)=exitTo oA k:=by simp[exitTo]
  exact⟨.exit oA,a₁,w₁,hq,fun k' hk=>.head h0 jg (IM.1 k' (by rw[hx];exact hk)),
   fun FG hk=>let ⟨k₁,h1,h2⟩:=IM.2 FG (by rw[hx];exact hk);⟨k₁,h1,.head h0 jg h2⟩⟩
 | goto l=>exact hq.elim
 | ret=>exact⟨_,a₁,w₁,hq,.of_steps (.one h0 jg) IM⟩
 | panic ch=>exact⟨_,a₁,w₁,hq,.of_steps (.one h0 jg) IM⟩
 | outgrown=>exact⟨_,a₁,w₁,hq,.of_steps (.one h0 jg) IM⟩
end
def J4(P:Program)(T:e7)(ops:Array Oper)(rt:RT):Prop:=
 ∀ {σ:Type} (cx:Cx σ),mE P cx -> ∀ (r:Option Nat) (m:List Nat) (L:Loc) (F:Nat->Nat) (e:Env) (h:Heap) (s:σ) (a:Act) (w:World) (K:Env->Heap->Prop),
  Good cx r m L F ⟨e,h,s⟩ a w->(∀ o∈ops.toList,∀ d,o.dst=some d->d<a.tmps.size)->sK rt.made e h (fun e h=>GQ P T rt.made ops.toList (ops.toList.zip rt.gj) [] e h K) ->
  ∀ id,(Code.region id ops true).wpIn (fr r) 0 P (GY cx r m F w a.tmps.size fun e h s'=>K e h/\s'=s) a w
def dD(P:Program)(T:e7)(ft:FT):Code->Prop
 | .region id ops draw=>draw=true -> ∀ rt,get ft.tb id=some rt->J4 P T ops rt
 | .seq a b=>dD P T ft a/\dD P T ft b
 | .cond _ a b=>dD P T ft a/\dD P T ft b
 | .block _ a=>dD P T ft a
 | .loop a=>dD P T ft a
 | .scope a=>dD P T ft a
 | .rangeFunc _ _ a b=>dD P T ft a/\dD P T ft b
 | _=>True
theorem ez{α:Type}(l:List Nat)(t:wy α):dB (aX l t) t:=by
 induction t with
 | nil=>exact fun _ _ h=>h
 | cons kv r ih=>
  obtain⟨k,v⟩:=kv;intro s u hu;simp only[aX]at hu;split at hu
  ·simp only[get]at hu ⊢
   split at hu
   ·exact hu
   ·exact ih s u hu
  ·rename_i hk
   have key:∀ (t:wy α) (s:Nat) (u:α),get (aX l t) s=some u->FP l s=true:=by
    intro t
    induction t with
    | nil=>intro s u h;cases h
    | cons kv r ih=>
     obtain⟨k,v⟩:=kv;intro s u h;simp only[aX]at h;split at h
     ·rename_i hk
      simp only[get]at h;split at h
      ·rename_i he;have:=Nat.eq_of_beq_eq_true he;subst this;exact hk
      ·exact ih s u h
     ·exact ih s u h
   have hs:=key r s u hu;simp only[get];split
   ·rename_i he
    have:=Nat.eq_of_beq_eq_true he;subst this;rw[hs]at hk;cases hk
   ·exact ih s u hu
section
variable {P : Program} {T : e7} {ft : FT} {σ : Type} {Y : Hd σ}
theorem nH{n:Nat}{id:Nat}{ops:Array Oper}{draw:Bool}(h:codeOk n (.region id ops draw)=true):∀ o∈ops.toList,∀ d,o.dst=some d->d<n:=by
 intro o ho d hd;have:=List.all_eq_true.1 (show ops.toList.all _=true from h) o ho;rw[hd]at this;simpa using this
theorem dX(hT:bA P T):∀ (c:Code),dD P T ft c -> ∀ (st:St σ) (K:fg->St σ->Prop),Cy P T ft Y c st K->EW P Y c st K
 | .skip,_,st,K,h=>fun cx hY r m L F a w hg hc=>wpIn_skip (.inl ⟨.normal,st,m,L,F,rfl,h,hg,Tr.refl F w,rfl⟩)
 | .exit i,_,st,K,h=>fun cx hY r m L F a w hg hc=>wpIn_exit (.inl ⟨.exit i,st,m,L,F,rfl,h,hg,Tr.refl F w,rfl⟩)
 | .ret,_,st,K,h=>fun cx hY r m L F a w hg hc=>wpIn_ret (.inl ⟨.ret,st,m,L,F,rfl,h,hg,Tr.refl F w,rfl⟩)
 | .label l,_,st,K,h=>fun cx hY r m L F a w hg hc=>wpIn_label (.inl ⟨.normal,st,m,L,F,rfl,h,hg,Tr.refl F w,rfl⟩)
 | .goto l,_,st,K,h=>False.elim h
 | .refuse y,_,st,K,h=>False.elim h
 | .loop c,_,st,K,h=>by obtain⟨h⟩:=(show CS P ft Y c st K from h);exact h
 | .rangeFunc g ps a b,_,st,K,h=>by obtain⟨h⟩:=(show iK P ft Y g ps a b st K from h);exact h
 | .scope c,hD,st,K,h=>fun cx hY r m L F a w hg hc=>by
  have:=dX hT c hD st K h cx hY r m L F a w hg hc;exact GR (wpIn_mono this fun ex a' w' hq=>by
   rcases hq with⟨e',st',m',L',F',rfl,hk⟩|hp
   ·cases e'<;>exact .inl ⟨_,st',m',L',F',rfl,hk⟩
   ·have IV:=hp
    obtain⟨v,pe,ph,ps,m',L',F',rfl,_⟩:=hp;exact .inr IV)
 | .seq x y,hD,st,K,h=>fun cx hY r m L F a w hg hc=>by
  simp only[codeOk,Bool.and_eq_true]at hc;have:=dX hT x hD.1 st _ h cx hY r m L F a w hg hc.1;refine wpIn_seq (wpIn_mono this fun ex a' w' hq=>?_);rcases hq with⟨e',st',m',L',F',rfl,hk,dp,tr,hs⟩|hp
  case inr=>
   have IV:=hp;obtain⟨v,pe,ph,ps,m',L',F',rfl,_⟩:=hp;exact .inr IV
  cases e' with
  | normal=>
   refine wpIn_mono (dX hT y hD.2 st' K hk cx hY r m' L' F' a' w' dp (by rw[hs];exact hc.2)) fun ex Pl wv hq=>?_;rcases hq with⟨XQ,O7,m'',Ka,GV,rfl,jj,Fz,mV,RB⟩|hp
   ·exact .inl ⟨XQ,O7,m'',Ka,GV,rfl,jj,Fz,Tr.trans tr mV,RB.trans hs⟩
   ·exact .inr (hp.trans tr hs)
  | exit i=>exact .inl ⟨.exit i,st',m',L',F',rfl,hk,dp,tr,hs⟩
  | ret=>exact .inl ⟨.ret,st',m',L',F',rfl,hk,dp,tr,hs⟩
 | .cond c x y,hD,st,K,h=>fun cx hY r m L F a w hg hc=>by
  simp only[codeOk,Bool.and_eq_true]at hc;obtain⟨e,hp,s⟩:=st;have h:xB (aS e c) (Cy P T ft Y x ⟨e,hp,s⟩ K) (Cy P T ft Y y ⟨e,hp,s⟩ K):=h;unfold xB at h;split at h
  ·rename_i t ht
   have dC:a.eval c = .bool t:=hg.aS ht;rcases sM h with⟨rfl,h⟩|⟨rfl,h⟩
   ·exact wpIn_cond dC (dX hT x hD.1 _ K h cx hY r m L F a w hg hc.1)
   ·exact wpIn_cond dC (dX hT y hD.2 _ K h cx hY r m L F a w hg hc.2)
  ·exact h.elim
 | .block i c,hD,st,K,h=>fun cx hY r m L F a w hg hc=>by
  have:=dX hT c hD st (Fc i K) h cx hY r m L F a w hg hc;refine wpIn_block (wpIn_mono this fun ex a' w' hq=>?_);rcases hq with⟨e',st',m',L',F',rfl,hk,ir⟩|hp
  case inr=>
   have IV:=hp;obtain⟨v,pe,ph,ps,m',L',F',rfl,_⟩:=hp;exact .inr IV
  cases e' with
  | normal=>exact .inl ⟨.normal,st',m',L',F',rfl,hk,ir⟩
  | ret=>exact .inl ⟨.ret,st',m',L',F',rfl,hk,ir⟩
  | exit j=>
   simp only[fg.QE,Exit.inBlock];simp only[Fc]at hk;split at hk
   ·rename_i mW
    rw[if_pos (Nat.eq_of_beq_eq_true mW)];exact .inl ⟨.normal,st',m',L',F',rfl,hk,ir⟩
   ·rename_i mW
    rw[if_neg (by rintro rfl;simp at mW)];exact .inl ⟨.exit j,st',m',L',F',rfl,hk,ir⟩
 | .region id ops draw,hD,st,K,h=>fun cx hY r m L F a w hg hc=>by
  obtain⟨e,hp,s⟩:=st;have fin:∀ {ex:Exit} {a':Act} {w':World} {e':Env} {h':Heap} {s':σ} {L':Loc} {F':Nat->Nat},ex = .normal->eB (aX ft.ks e') (fun e=>K .normal ⟨e,h',s'⟩)->Good cx r m L' F' ⟨e',h',s'⟩ a' w'->Tr F w F' w'->a'.tmps.size=a.tmps.size ->
    (∃ (e':fg) (st':St σ) (m':List Nat) (L':Loc) (F':Nat->Nat),ex=e'.QE/\K e' st'/\Good cx r m' L' F' st' a' w'/\Tr F w F' w'/\a'.tmps.size=a.tmps.size)\/pr Y cx r F w a.tmps.size ex a' w':=by
   intro ex a' w' e' h' s' L' F' hex hk dp tr hs;rw[fM]at hk;exact .inl ⟨.normal,_,m,L',F',hex,hk,dp.sub (ez ft.ks e') (fun _ _ h=>h),tr,hs⟩
  cases draw with
  | false=>
   have h:wpOps P T Y ops.toList ops.toList e hp s (fun e h s=>eB (aX ft.ks e) fun e=>K .normal ⟨e,h,s⟩):=h;refine wpIn_mono (wpIn_region (id:=id) (Q:=na Y cx r m F w a.tmps.size (fun e h s=>eB (aX ft.ks e) fun e=>K .normal ⟨e,h,s⟩)) ?_) fun ex a' w' hq=>?_
   ·have:=mD hT hY ops.toList 0 (fun j=>by simp) hg rfl (nH hc) (Tr.refl F w) h
    rwa [<- List.range_eq_range',Array.length_toList]at this
   ·rcases hq with⟨e',h',s',L',F',hex,hk,dp,tr,hs⟩|hp
    ·exact fin hex hk dp tr hs
    ·exact .inr hp
  | true=>
   have h:(match get ft.tb id with
    | some ⟨made,gj⟩=>sK made e hp fun e h=>GQ P T made ops.toList (ops.toList.zip gj) [] e h fun e h=>eB (aX ft.ks e) fun e=>K .normal ⟨e,h,s⟩
    | none=>sF P ft Y id ops ⟨e,hp,s⟩ K):=h
   split at h
   ·rename_i made gj P2
    have Q5:=hD rfl ⟨made,gj⟩ P2 cx hY.laid r m L F e hp s a w _ hg (nH hc) h;refine wpIn_mono (Q5 id) fun ex a' w' hq=>?_;obtain⟨e',h',s',L',F',hex,⟨hk,rfl⟩,dp,tr,hs⟩:=hq;exact fin hex hk dp tr hs
   ·obtain⟨h⟩:=h
    exact h cx hY r m L F a w hg hc
end
@[ext] structure Fs where
 env:Nat->Option V
 heap:Nat->Option Obj
def gJ(f:Fs):Wr->Fs
 | .set s v=>⟨fun x=>if x=s then some v else f.env x,f.heap⟩
 | .obj i o=>⟨f.env,fun x=>if x=i then some o else f.heap x⟩
 | .new i o=>⟨f.env,fun x=>if x=i then some o else f.heap x⟩
 | .newq i o=>⟨f.env,fun x=>if x=i then some o else f.heap x⟩
 | .del i=>⟨f.env,fun x=>if x=i then none else f.heap x⟩
def cA(f:Fs):List Wr->Fs
 | []=>f
 | w::r=>cA (gJ f w) r
def dr{σ:Type}(st:St σ):Fs:=⟨get st.env,get st.heap⟩
def nR:List Wr->List Nat
 | []=>[]
 | .set s _::r=>s::nR r
 | _::r=>nR r
theorem il:∀ {l:List Nat} {n:Nat},FP l n=true↔n∈l
 | [],n=>by simp[FP]
 | k::r,n=>by
  simp only[FP,List.mem_cons]
  cases h:Nat.beq k n with
  | true=>simp[Nat.eq_of_beq_eq_true h]
  | false=>
   have:n≠k:=by rintro rfl;simp at h
   simp[this,il (l:=r)]
theorem ij:∀ {l m:List Nat},lB l m=true -> ∀ x∈l,x∉m
 | [],m,_,x,hx=>by cases hx
 | k::r,m,h,x,hx=>by
  simp only[lB]at h;split at h
  ·cases h
  rename_i hk;rcases List.mem_cons.1 hx with rfl|hx
  ·intro hm;rw[il.2 hm]at hk;cases hk
  ·exact ij h x hx
theorem Bd:∀ {l m:List Nat},O8 l m=true -> ∀ x∈l,x∈m
 | [],m,_,x,hx=>by cases hx
 | k::r,m,h,x,hx=>by
  simp only[O8]at h;split at h;case h_2=>cases h
  rename_i hk;rcases List.mem_cons.1 hx with rfl|hx
  ·exact il.1 hk
  ·exact Bd h x hx
theorem iY:∀ {ws:List Wr} (f:Fs) {x:Nat},x∉nR ws->(cA f ws).env x=f.env x
 | [],_,_,_=>rfl
 | w::r,f,x,h=>by
  rw[cA]
  cases w with
  | set s v=>
   simp only[nR,List.mem_cons,not_or]at h;rw[iY _ h.2];simp[gJ,h.1]
  | _=>rw[iY (ws:=r) _ h];rfl
theorem gM:∀ {ws:List Wr} (f:Fs) {x:Nat},x∉db ws->(cA f ws).heap x=f.heap x
 | [],_,_,_=>rfl
 | w::r,f,x,h=>by
  rw[cA]
  cases w with
  | set s v=>rw[gM (ws:=r) _ h];rfl
  | _=>
   simp only[db,List.mem_cons,not_or]at h;rw[gM _ h.2];simp[gJ,h.1]
theorem ku:∀ {ws:List Wr} {f g:Fs} {x:Nat},f.env x=g.env x->(cA f ws).env x=(cA g ws).env x
 | [],_,_,_,h=>h
 | w::r,f,g,x,h=>by
  rw[cA,cA];apply ku;cases w<;>simp[gJ,h]
theorem jF:∀ {ws:List Wr} {f g:Fs} {x:Nat},f.heap x=g.heap x->(cA f ws).heap x=(cA g ws).heap x
 | [],_,_,_,h=>h
 | w::r,f,g,x,h=>by
  rw[cA,cA];apply jF;cases w<;>simp[gJ,h]
theorem E9{u v:List Wr}(f:Fs)(h1:∀ x∈nR u,x∉nR v)(h2:∀ x∈db u,x∉db v):cA (cA f u) v=cA (cA f v) u:=by
 ext1
 ·funext x
  by_cases hx:x∈nR u
  ·rw[iY _ (h1 x hx)]
   exact(ku (iY f (h1 x hx))).symm
  ·rw[iY (ws:=u) _ hx]
   exact ku (iY f hx)
 ·funext x
  by_cases hx:x∈db u
  ·rw[gM _ (h2 x hx)]
   exact(jF (gM f (h2 x hx))).symm
  ·rw[gM (ws:=u) _ hx]
   exact jF (gM f hx)
theorem Dp{σ:Type}:∀ (ws:List Wr) (st:St σ),dr (aR st (sk ws))=cA (dr st) ws
 | [],st=>rfl
 | w::r,st=>by
  have key:∀ w':Wr,dr (bP st w')=gJ (dr st) w->dr (aR st (w'::sk r))=cA (dr st) (w::r):=by
   intro w' h;rw[aR,Dp r,cA,h]
  cases w with
  | set s v=>exact key _ (by simp only[dr,bP,gJ];congr 1;funext x;rw[eM])
  | obj i o=>exact key _ (by simp only[dr,bP,gJ];congr 1;funext x;rw[eM])
  | new i o=>exact key (.newq i o) (by simp only[dr,bP,gJ];congr 1;funext x;rw[gd])
  | newq i o=>exact key _ (by simp only[dr,bP,gJ];congr 1;funext x;rw[gd])
  | del i=>exact key _ (by simp only[dr,bP,gJ];congr 1;funext x;rw[e6])
structure rF(f:Fs)(id:Nat):Prop where
 none:f.heap id=none
 env:∀ s v,f.env s=some v->¬ iC v id
 heap:∀ i o,f.heap i=some o->¬ lW o id
mutual
theorem wM(id:Nat):∀ (v:V),¬ iC v id->aL (bf id) v=v
 | .d _,_=>rfl
 | .agg cs,h=>by simp only[aL];rw[lS id cs h]
 | .tup cs,h=>by simp only[aL];rw[lS id cs h]
 | .clo _ cs,h=>by simp only[aL];rw[lS id cs h]
 | .ptr i off,h=>by
  have hi:Nat.beq i id=false:=by rw[Bool.eq_false_iff];intro e;exact h (Nat.eq_of_beq_eq_true e)
  simp only[aL,bf,mR,hi]
 | .ep i sz j off,h=>by
  have hi:Nat.beq i id=false:=by rw[Bool.eq_false_iff];intro e;exact h (Nat.eq_of_beq_eq_true e)
  simp only[aL,bf,mR,hi]
 | .sl i sz off len,h=>by
  have hi:Nat.beq i id=false:=by rw[Bool.eq_false_iff];intro e;exact h (Nat.eq_of_beq_eq_true e)
  simp only[aL,bf,mR,hi]
 | .mp i,h=>by
  have hi:Nat.beq i id=false:=by rw[Bool.eq_false_iff];intro e;exact h (Nat.eq_of_beq_eq_true e)
  simp only[aL,bf,mR,hi]
 | .it i,h=>by
  have hi:Nat.beq i id=false:=by rw[Bool.eq_false_iff];intro e;exact h (Nat.eq_of_beq_eq_true e)
  simp only[aL,bf,mR,hi]
 | .yld,_=>rfl
 | .unk,_=>rfl
theorem lS(id:Nat):∀ (vs:List V),¬ bZ vs id->dE (bf id) vs=vs
 | [],_=>rfl
 | v::r,h=>by
  simp only[bZ,not_or]at h;simp only[dE];rw[wM id v h.1,lS id r h.2]
end
theorem AM(id:Nat):∀ (es:List (List V)),¬ bZ es.flatten id->aU (bf id) es=es
 | [],_=>rfl
 | e::r,h=>by
  simp only[List.flatten_cons,qc,not_or]at h;simp only[aU];rw[lS id e h.1,AM id r h.2]
theorem DU(id:Nat)(o:Obj)(h:¬ lW o id):Obj.aL (bf id) o=o:=by
 cases o with
 | box c=>cases c with
  | dd l=>rfl
  | vv l=>simp only[Obj.aL];rw[lS id l h]
 | arr sz es=>cases es with
  | dd l=>rfl
  | vv l=>simp only[Obj.aL];rw[AM id l h]
 | map cJ=>rfl
 | iter s n=>rfl
 | buf t s=>rfl
 | tb t l=>simp only[Obj.aL];rw[lS id l h]
 | mit v n l u=>simp only[Obj.aL];rw[wM id v h]
mutual
theorem jd(i:Nat):∀ (v:V),iC v i->i∈cy v
 | .d _,h=>h.elim
 | .agg cs,h=>by simpa[cy]using fq i cs h
 | .tup cs,h=>by simpa[cy]using fq i cs h
 | .clo _ cs,h=>by simpa[cy]using fq i cs h
 | .ptr j off,h=>by have:j=i:=h;simp[cy,this]
 | .ep j sz k off,h=>by have:j=i:=h;simp[cy,this]
 | .sl j sz off len,h=>by have:j=i:=h;simp[cy,this]
 | .mp j,h=>by have:j=i:=h;simp[cy,this]
 | .it j,h=>by have:j=i:=h;simp[cy,this]
 | .yld,h=>h.elim
 | .unk,h=>h.elim
theorem fq(i:Nat):∀ (vs:List V),bZ vs i->i∈bJ vs
 | [],h=>h.elim
 | v::r,h=>by
  simp only[bJ,List.mem_append];exact h.imp (jd i v) (fq i r)
end
theorem fu(i:Nat)(o:Obj)(h:lW o i):i∈gV o:=by
 cases o with
 | box c=>cases c with
  | dd l=>exact(fv l i h).elim
  | vv l=>exact fq i l h
 | arr sz es=>cases es with
  | dd l=>
   exfalso;have h:bZ (aG l).flatten i:=h;rw[dt]at h;exact fv _ i h
  | vv l=>exact fq i l.flatten h
 | map cJ=>exact h.elim
 | iter s n=>exact h.elim
 | buf t s=>exact h.elim
 | tb t l=>exact fq i l h
 | mit v n l u=>exact jd i v h
theorem rF.gJ{f:Fs}{id:Nat}{w:Wr}(h:rF f id)(h1:id∉cC [w])(h2:id∉db [w]):rF (gJ f w) id:=by
 have put:∀ (i:Nat) (o:Obj),id∉gV o->id≠i->rF ⟨f.env,fun x=>if x=i then some o else f.heap x⟩ id:=by
  intro i o ho hi;refine⟨by simp[hi,h.none],h.env,fun j o' hj=>?_⟩;simp only at hj;split at hj
  ·cases hj;exact fun hn=>ho (fu id _ hn)
  ·exact h.heap j o' hj
 cases w with
 | set s v=>
  refine⟨h.none,fun t u hu=>?_,h.heap⟩;simp only[PX.gJ]at hu;split at hu
  ·cases hu;exact fun hn=>h1 (by simp[cC,jd id _ hn])
  ·exact h.env t u hu
 | obj i o=>exact put i o (by simpa[cC]using h1) (by simpa[db]using h2)
 | new i o=>exact put i o (by simpa[cC]using h1) (by simpa[db]using h2)
 | newq i o=>exact put i o (by simpa[cC]using h1) (by simpa[db]using h2)
 | del i=>
  refine⟨?_,h.env,fun j o' hj=>?_⟩
  ·simp only[PX.gJ];split
   ·rfl
   ·exact h.none
  ·simp only[PX.gJ]at hj
   split at hj
   ·cases hj
   ·exact h.heap j o' hj
theorem EP(w:Wr)(r:List Wr)(x:Nat):x∈cC (w::r)↔x∈cC [w]\/x∈cC r:=by cases w<;>simp[cC]
theorem GN(w:Wr)(r:List Wr)(x:Nat):x∈db (w::r)↔x∈db [w]\/x∈db r:=by cases w<;>simp[db]
theorem rF.cA{id:Nat}:∀ {ws:List Wr} {f:Fs},rF f id->id∉cC ws->id∉db ws->rF (cA f ws) id
 | [],f,h,_,_=>h
 | w::r,f,h,h1,h2=>by
  rw[EP,not_or]at h1;rw[GN,not_or]at h2;exact rF.cA (ws:=r) (f:=PX.gJ f w) (h.gJ h1.1 h2.1) h1.2 h2.2
theorem vH{w:Wr}{r:List Wr}(h:fO (w::r)=true):fO r=true/\(∀ x∈bR r,x∉cC [w])/\(∀ x∈bR r,x∈db [w] -> ∃ i,w = .del i)/\(∀ i o,w ≠ .newq i o):=by
 have key:∀ {l:List Nat},(match lB (bR r) l with
   | true=>fO r
   | false=>false)=true->fO r=true /\ ∀ x∈bR r,x∉l:=by
  intro l h;split at h
  ·rename_i hd;exact⟨h,ij hd⟩
  ·cases h
 cases w with
 | set s v=>
  obtain⟨h1,h2⟩:=key h;exact⟨h1,fun x hx=>by simpa[cC]using h2 x hx,fun x hx hm=>by simp[db]at hm,fun i o e=>by cases e⟩
 | obj i o=>
  obtain⟨h1,h2⟩:=key h;exact⟨h1,fun x hx=>by have:=h2 x hx;simp at this;simpa[cC]using this.2,fun x hx hm=>by have:=h2 x hx;simp[db]at hm;simp[hm]at this,fun i o e=>by cases e⟩
 | new i o=>
  obtain⟨h1,h2⟩:=key h;exact⟨h1,fun x hx=>by have:=h2 x hx;simp at this;simpa[cC]using this.2,fun x hx hm=>by have:=h2 x hx;simp[db]at hm;simp[hm]at this,fun i o e=>by cases e⟩
 | newq i o=>cases h
 | del i=>exact⟨h,fun x hx=>by simp[cC],fun x hx hm=>⟨i,rfl⟩,fun i o e=>by cases e⟩
theorem BP{σ:Type}:∀ (ws:List Wr) (st:St σ),fO ws=true->(∀ id∈bR ws,rF (dr st) id)->dr (aR st ws)=cA (dr st) ws
 | [],st,_,_=>rfl
 | w::r,st,gh,hu=>by
  obtain⟨h1,h2,h3,h4⟩:=vH gh;have SO:∀ id∈bR r,rF (dr st) id:=fun id hid=>hu id (by cases w<;>simp[bR,hid]);have key:dr (bP st w)=gJ (dr st) w:=by
   cases w with
   | set s v=>simp only[dr,bP,gJ];congr 1;funext x;rw[eM]
   | obj i o=>simp only[dr,bP,gJ];congr 1;funext x;rw[eM]
   | new i o=>
    have hi:rF (dr st) i:=hu i (by simp[bR]);simp only[dr,bP,gJ]
    congr 1
    ·funext x
     rw[bY]
     cases hx:get st.env x with
     | none=>rfl
     | some v=>simp only[Option.map_some];rw[wM i v (hi.env x v hx)]
    ·funext x
     rw[gd,bY,e6];split
     ·rfl
     ·cases hx:get st.heap x with
      | none=>rfl
      | some o'=>simp only[Option.map_some];rw[DU i o' (hi.heap x o' hx)]
   | newq i o=>exact absurd rfl (h4 i o)
   | del i=>simp only[dr,bP,gJ];congr 1;funext x;rw[e6]
  rw[aR,cA,<- key];refine BP r _ h1 fun id hid=>?_;rw[key];by_cases hm:id∈db [w]
  ·obtain⟨i,rfl⟩:=h3 id hid hm
   have hh:=SO id hid;refine⟨?_,hh.env,fun j o' hj=>?_⟩
   ·simp only[PX.gJ];split
    ·rfl
    ·exact hh.none
   ·simp only[PX.gJ]at hj
    split at hj
    ·cases hj
    ·exact hh.heap j o' hj
  ·exact(SO id hid).gJ (h2 id hid) hm
structure Rec where
 idx:Nat
 e:Env
 h:Heap
 os:List Nat
 ws:List Wr
 kc:List Nat
def Rec.oo(r:Rec):OO:=⟨r.os,db r.ws,bR r.ws,cC r.ws⟩
def Qw(r:Rec)(f:Fs):Prop:=(∀ s v,get r.e s=some v->f.env s=some v)/\(∀ s o,get r.h s=some o->f.heap s=some o)
def qN:List Rec->Fs->Fs->Prop
 | [],f,f'=>f'=f
 | r::l,f,f'=>Qw r f/\qN l (cA f r.ws) f'
structure Bm(a b:Rec):Prop where
 env:∀ x∈nR a.ws,get b.e x=none
 heap:∀ x∈db a.ws,get b.h x=none
 aaG:∀ x∈nR a.ws,x∉nR b.ws
 Jf:∀ x∈db a.ws,x∉db b.ws
 news:∀ x∈bR a.ws,x∉cC b.ws
structure J7(a b:Rec):Prop where
 l:Bm a b
 r:Bm b a
theorem Bm.sub{a b:Rec}(h:Bm a b)(f:Fs):Qw b (cA f a.ws)↔Qw b f:=by
 constructor
 ·rintro ⟨h1,h2⟩
  refine⟨fun s v hs=>?_,fun s o hs=>?_⟩
  ·rw[<- h1 s v hs];exact(iY f fun hm=>by rw[h.env s hm]at hs;cases hs).symm
  ·rw[<- h2 s o hs];exact(gM f fun hm=>by rw[h.heap s hm]at hs;cases hs).symm
 ·rintro ⟨h1,h2⟩
  refine⟨fun s v hs=>?_,fun s o hs=>?_⟩
  ·rw[iY f fun hm=>by rw[h.env s hm]at hs;cases hs];exact h1 s v hs
  ·rw[gM f fun hm=>by rw[h.heap s hm]at hs;cases hs];exact h2 s o hs
theorem qN.swap{a b:Rec}{l:List Rec}{f f':Fs}(hf:J7 a b)(h:qN (a::b::l) f f'):qN (b::a::l) f f':=by
 obtain⟨h1,h2,h3⟩:=h;refine⟨(hf.l.sub f).1 h2,(hf.r.sub f).2 h1,?_⟩;rw[E9 f hf.r.aaG hf.r.Jf];exact h3
theorem qN.front{b:Rec}{l2:List Rec}{f':Fs}:∀ {l1:List Rec} {f:Fs},(∀ a∈l1,J7 a b)->qN (l1++b::l2) f f'->qN (b::(l1++l2)) f f'
 | [],_,_,h=>h
 | a::l1,f,hf,h=>by
  obtain⟨h1,h2⟩:=h;have:=qN.front (l1:=l1) (fun i hi=>hf i (List.mem_cons_of_mem _ hi)) h2;exact qN.swap (hf a (List.mem_cons_self ..)) ⟨h1,this⟩
def u4(P:Program)(ops:Array Oper)(q:Rec):Prop:=
 ∀ {σ:Type} (cx:Cx σ),mE P cx -> ∀ (r:Option Nat) (m:List Nat) (L:Loc) (F:Nat->Nat) (st:St σ) (a:Act) (w:World),dB q.e st.env->dB q.h st.heap->Good cx r m L F st a w ->
  (∀ o,ops[q.idx]?=some o -> ∀ k,o.dst=some k->k<a.tmps.size) -> ∀ (next:Act->World->Prop) (Q:Exit->Act->World->Prop),
  (∀ a' L' F' w',a'.tmps.size=a.tmps.size->Good cx r m L' F' (aR st q.ws) a' w'->Tr F w F' w'->next a' w')->wpOpIn (fr r) 0 P ops Q q.idx next a w
structure Pr(a b:Rec):Prop where
 lt:a.idx<b.idx
 free:a.idx∈b.kc->J7 a b
 names:∀ x∈bR b.ws,x∉cC a.ws
 Jf:∀ x∈bR b.ws,x∉db a.ws
theorem iU:∀ {ws:List Wr} {x:Nat},x∈bR ws->x∈db ws
 | [],_,h=>h
 | w::r,x,h=>by
  cases w<;>simp only[bR,db,List.mem_cons]at h ⊢
  ·exact iU h
  ·exact .inr (iU h)
  ·exact h.imp id iU
  ·exact .inr (iU h)
  ·exact .inr (iU h)
def qf:Nat->List Oper->Bool
 | _,[]=>true
 | i,o::r=>o.after.toList.all (fun e=>!Region.binds .any e||Nat.blt e.on i)&&qf (i+1) r
def Ki(gj:List OT)(o:Oper)(i:Nat):Bool:=
 o.after.toList.any fun e=>Region.binds .any e&&(Nat.beq e.on i||(Nat.blt i e.on&&(match gj[e.on]? with
  | some u=>!FP u.kc i
  | none=>false)))
def qH(gj:List OT):Nat->List Oper->List OT->Bool
 | _,[],_=>true
 | j,o::r,t::tr=>(List.range j).all (fun i=>FP t.kc i||Ki gj o i)&&qH gj (j+1) r tr
 | _,_::_,[]=>false
def wB(d:Option Nat)(ts:List Nat):Bool:=
 match d with
 | none=>true
 | some d=>!FP ts d
def Pt(d d':Option Nat):Bool:=
 match d,d' with
 | some d,some d'=>!Nat.beq d d'
 | _,_=>true
def yM(ops:List Oper)(gj:List OT)(o:Oper)(t:OT):List Nat->Bool
 | []=>true
 | i::r=>(match ops[i]?,gj[i]? with
  | some p,some u=>wB p.dst t.ts&&wB o.dst u.ts&&Pt p.dst o.dst
  | _,_=>false)&&yM ops gj o t r
def tH(ops:List Oper)(gj:List OT):List Oper->List OT->Bool
 | [],_=>true
 | o::r,t::tr=>yM ops gj o t t.kc&&tH ops gj r tr
 | _::_,[]=>false
def l4(ops:List Oper)(rt:RT):Bool:=
 Nat.beq ops.length rt.gj.length&&qf 0 ops&&qH rt.gj 0 ops rt.gj&&tH ops rt.gj ops rt.gj&&rt.made.all fun d=>Nat.blt d 500000
theorem gY:∀ {l:List Oper} {i:Nat},qf i l=true -> ∀ (j:Nat) (o:Oper),l[j]?=some o -> ∀ e∈o.after,Region.binds .any e=true->e.on<i+j
 | [],_,_,j,o,ho,_,_,_=>by simp at ho
 | x::l,i,h,j,o,ho,e,he,hb=>by
  simp only[qf,Bool.and_eq_true,List.all_eq_true]at h
  cases j with
  | zero=>
   simp only[List.getElem?_cons_zero,Option.some.injEq]at ho;subst ho;have:=h.1 e (by simpa using he);simp only[hb,Bool.not_true,Bool.false_or]at this;exact Nat.le_of_ble_eq_true this
  | succ j=>
   have:=gY h.2 j o (by simpa using ho) e he hb;omega
theorem oH{gj:List OT}:∀ {l:List Oper} {tr:List OT} {k:Nat},qH gj k l tr=true -> ∀ (j:Nat) (o:Oper) (t:OT),l[j]?=some o->tr[j]?=some t -> ∀ i,i<k+j->i∈t.kc \/
  ∃ e∈o.after,Region.binds .any e=true/\(e.on=i\/i<e.on /\ ∃ u,gj[e.on]?=some u/\i∉u.kc)
 | [],_,_,_,j,o,t,ho,_,_,_=>by simp at ho
 | _::_,[],_,h,j,o,t,_,ht,_,_=>by simp at ht
 | x::l,y::tr,k,h,j,o,t,ho,ht,i,hi=>by
  simp only[qH,Bool.and_eq_true,List.all_eq_true]at h
  cases j with
  | zero=>
   simp only[List.getElem?_cons_zero,Option.some.injEq]at ho ht;subst ho;subst ht;have:=h.1 i (by simpa using hi);rw[Bool.or_eq_true]at this;rcases this with h1|h1
   ·exact .inl (il.1 h1)
   ·right
    simp only[Ki,List.any_eq_true,Bool.and_eq_true,Bool.or_eq_true]at h1;obtain⟨e,he,hb,Od⟩:=h1;refine⟨e,by simpa using he,hb,?_⟩;rcases Od with h2|⟨h2,h3⟩
    ·exact .inl (Nat.eq_of_beq_eq_true h2)
    ·right
     refine⟨Nat.le_of_ble_eq_true h2,?_⟩;split at h3
     ·rename_i u hu
      refine⟨u,hu,fun hm=>?_⟩;rw[il.2 hm]at h3;cases h3
     ·cases h3
  | succ j=>exact oH h.2 j o t (by simpa using ho) (by simpa using ht) i (by omega)
theorem vI{ops:List Oper}{gj:List OT}{o:Oper}{t:OT}:∀ {l:List Nat},yM ops gj o t l=true -> ∀ i∈l,∃ p u,ops[i]?=some p/\gj[i]?=some u/\(∀ d,p.dst=some d->d∉t.ts)/\(∀ d,o.dst=some d->d∉u.ts)/\(∀ d,p.dst=some d->o.dst≠some d)
 | [],_,i,hi=>by cases hi
 | k::r,h,i,hi=>by
  simp only[yM,Bool.and_eq_true]at h;rcases List.mem_cons.1 hi with rfl|hi
  ·have h1:=h.1
   split at h1;case h_2=>cases h1
   rename_i p u hp hu;simp only[Bool.and_eq_true]at h1;obtain⟨⟨h2,h3⟩,h4⟩:=h1;refine⟨p,u,hp,hu,fun d hd hm=>?_,fun d hd hm=>?_,fun d hd he=>?_⟩
   ·rw[hd]at h2;simp[wB,il.2 hm]at h2
   ·rw[hd]at h3;simp[wB,il.2 hm]at h3
   ·rw[hd,he]at h4;simp[Pt]at h4
  ·exact vI h.2 i hi
theorem tI{ops:List Oper}{gj:List OT}:∀ {l:List Oper} {tr:List OT},tH ops gj l tr=true -> ∀ (j:Nat) (o:Oper) (t:OT),l[j]?=some o->tr[j]?=some t->yM ops gj o t t.kc=true
 | [],_,_,j,o,t,ho,_=>by simp at ho
 | _::_,[],h,j,o,t,_,ht=>by simp at ht
 | x::l,y::tr,h,j,o,t,ho,ht=>by
  simp only[tH,Bool.and_eq_true]at h
  cases j with
  | zero=>
   simp only[List.getElem?_cons_zero,Option.some.injEq]at ho ht;subst ho;subst ht;exact h.1
  | succ j=>exact tI h.2 j o t (by simpa using ho) (by simpa using ht)
theorem mL{listed:Array Bool}{i:Nat}(hi:i<listed.size)(h:listed.getD i true≠false):listed.getD i false=true:=by
 simp only[Array.getD_eq_getD_getElem?]at h ⊢;rw[Array.getElem?_eq_getElem hi]at h ⊢;simpa using h
theorem kR{listed:Array Bool}{i:Nat}(h:listed.getD i false=true):listed.getD i true=true:=by
 simp only[Array.getD_eq_getD_getElem?]at h ⊢
 cases hi:listed[i]? with
 | none=>rw[hi]at h;cases h
 | some b=>rw[hi]at h;simpa using h
structure Ke(ops:Array Oper)(l:List Rec)(listed:Array Bool):Prop where
 mem:∀ i,(∃ q∈l,q.idx=i)↔listed.getD i true=false
 size:listed.size=ops.size
 closed:∀ (j:Nat) (o:Oper),listed.getD j false=true->ops[j]?=some o -> ∀ e∈o.after,Region.binds .any e=true->listed.getD e.on false=true
structure Rs(P:Program)(ops:Array Oper)(gj:List OT)(l:List Rec):Prop where
 pw:l.Pairwise Pr
 snd:∀ q∈l,u4 P ops q
 news:∀ q∈l,fO q.ws=true
 kc:∀ q∈l,∃ t,gj[q.idx]?=some t/\q.kc=t.kc
theorem Ke.ahead{ops:Array Oper}{l:List Rec}{listed:Array Bool}(h:Ke ops l listed){gj:List OT}(hb:qf 0 ops.toList=true)(hA:qH gj 0 ops.toList gj=true)(hlen:ops.toList.length=gj.length) :
  ∀ (n j:Nat) (o:Oper) (t:OT),j<n->ops[j]?=some o->gj[j]?=some t->(∀ e∈o.after,Region.binds .any e=true->listed.getD e.on false=true) -> ∀ i,i<j->i∉t.kc->listed.getD i false=true
 | 0,_,_,_,hj,_,_,_,_,_,_=>by omega
 | n+1,j,o,t,hj,ho,ht,hl,i,hi,hn=>by
  rcases oH hA j o t (by simpa using ho) ht i (by omega) with h1|⟨e,he,EZ,Od⟩
  ·exact absurd h1 hn
  have dN:=gY hb j o (by simpa using ho) e he EZ;rcases Od with rfl|⟨IT,u,hu,SH⟩
  ·exact hl e he EZ
  ·have N7:j<ops.size:=(Array.getElem?_eq_some_iff.1 ho).1
   have fe:ops[e.on]?=some ops[e.on]:=Array.getElem?_eq_getElem (by omega);exact Ke.ahead h hb hA hlen n e.on _ u (by omega) fe hu (h.closed e.on _ (hl e he EZ) fe) i IT SH
section
variable {P : Program} {σ : Type} {cx : Cx σ} {r : Option Nat} {m : List Nat}
theorem JR(yk:mE P cx){ops:Array Oper}{rt:RT}(jA:l4 ops.toList rt=true){Q:Exit->Act->World->Prop}{f':Fs}{s:σ}{n0:Nat}{F0:Nat->Nat}{w0:World}
  (hd:∀ o∈ops.toList,∀ d,o.dst=some d->d<n0)
  (hQ:∀ a w L F (st:St σ),dr st=f'->st.s=s->Good cx r m L F st a w->Tr F0 w0 F w->a.tmps.size=n0->Q .normal a w) :
  ∀ (fuel:Nat) {l:List Rec} {listed:Array Bool} {st:St σ} {a:Act} {w:World} {L:Loc} {F:Nat->Nat},
  Rs P ops rt.gj l->Good cx r m L F st a w->st.s=s->Tr F0 w0 F w->a.tmps.size=n0->(∀ q∈l,∀ id∈bR q.ws,rF (dr st) id)->qN l (dr st) f'->l.length<=fuel->Ke ops l listed ->
  wpAnyIn (fr r) 0 P .any ops Q fuel listed a w:=by
 simp only[l4,Bool.and_eq_true]at jA;obtain⟨⟨⟨⟨hlen,lK⟩,pO⟩,ox⟩,vt⟩:=jA;have hlen:=Nat.eq_of_beq_eq_true hlen;have Rx:∀ {l:List Rec} {listed:Array Bool},l.Pairwise Pr->Ke ops l listed->Region.ready .any ops listed = []->l = []:=by
  intro l listed hp ht hr
  cases l with
  | nil=>rfl
  | cons q l=>
   exfalso;have hi:=(ht.mem q.idx).1 ⟨q,List.mem_cons_self ..,rfl⟩;have W7:q.idx<ops.size:=by
    rcases Nat.lt_or_ge q.idx listed.size with h|h
    ·rw[<- ht.size];exact h
    ·simp[Array.getD_eq_getD_getElem?,Array.getElem?_eq_none h]at hi
   have iP:q.idx∈Region.ready .any ops listed:=by
    rw[mem_ready];refine⟨hi,ops[q.idx],Array.getElem?_eq_getElem W7,fun e he hb=>?_⟩;have dN:=gY lK q.idx ops[q.idx] (by simp) e he hb;refine mL (by rw[ht.size];omega) fun hf=>?_;obtain⟨q',HA,Lf⟩:=(ht.mem e.on).2 hf;rcases List.mem_cons.1 HA with h|h
    ·subst h;omega
    ·have:=((List.pairwise_cons.1 hp).1 _ h).lt
     omega
   rw[hr]at iP;cases iP
 intro fuel
 induction fuel with
 | zero=>
  intro l listed st a w L F zy hg hs tr hn hu bN hle ht;have hl:l = []:=List.length_eq_zero_iff.1 (by omega);subst hl;have bN:f'=dr st:=bN;refine⟨?_,hQ a w L F st bN.symm hs hg tr hn⟩
  cases hr:Region.ready .any ops listed with
  | nil=>rfl
  | cons i _=>
   have:i∈Region.ready .any ops listed:=by rw[hr];exact List.mem_cons_self ..
   obtain⟨q,hq,_⟩:=(ht.mem i).2 (mem_ready.1 this).1;cases hq
 | succ fuel ih=>
  intro l listed st a w L F zy hg hs tr hn hu bN hle ht;refine⟨fun hr=>?_,fun j hj=>?_⟩
  ·have hl:=Rx zy.pw ht hr
   subst hl;have bN:f'=dr st:=bN;exact hQ a w L F st bN.symm hs hg tr hn
  ·obtain⟨zI,oj,CL,lM⟩:=mem_ready.1 hj
   obtain⟨q,hq,rfl⟩:=(ht.mem j).2 zI;obtain⟨l1,l2,rfl⟩:=List.append_of_mem hq;have uG:=List.pairwise_append.1 zy.pw;obtain⟨t,Z1,Z0⟩:=zy.kc q hq;have eV:∀ p∈l1,J7 p q:=by
    intro p hp;have Nq:=uG.2.2 p hp q (List.mem_cons_self ..);refine Nq.free (Classical.byContradiction fun CJ=>?_);rw[Z0]at CJ;have:=ht.ahead lK pO hlen (q.idx+1) q.idx oj t (by omega) CL Z1 lM p.idx Nq.lt CJ;have h3:=kR this;rw[(ht.mem p.idx).1 ⟨p,List.mem_append_left _ hp,rfl⟩]at h3;cases h3
   obtain⟨ji,ir⟩:=qN.front eV bN;have SI:=zy.news q hq;have DJ:dr (aR st q.ws)=cA (dr st) q.ws:=BP q.ws st SI (hu q hq);refine zy.snd q hq cx yk r m L F st a w ji.1 ji.2 hg (fun o ho k hk=>?_) _ _ fun a' L' F' w' dc dp mV=>?_
   ·rw[hn]
    exact hd o (by simpa using Array.mem_of_getElem? ho) k hk
   ·have iP:∀ p,p∈l1++l2->p∈l1++q::l2:=fun p hp=>by
     rcases List.mem_append.1 hp with h|h
     ·exact List.mem_append_left _ h
     ·exact List.mem_append_right _ (List.mem_cons_of_mem _ h)
    have eW:∀ p∈l1++l2,p.idx≠q.idx:=by
     intro p hp;rcases List.mem_append.1 hp with h|h
     ·have:=(uG.2.2 p h q (List.mem_cons_self ..)).lt;omega
     ·have:=((List.pairwise_cons.1 uG.2.1).1 p h).lt;omega
    refine ih (l:=l1++l2) ⟨?_,fun p hp=>zy.snd p (iP p hp),fun p hp=>zy.news p (iP p hp),fun p hp=>zy.kc p (iP p hp)⟩ dp ((dM _ _).trans hs) (Tr.trans tr mV) (dc.trans hn) ?_ (by rw[DJ];exact ir) (by simp at hle ⊢;omega) ⟨fun i=>?_,?_,?_⟩
    ·exact List.pairwise_append.2 ⟨uG.1,(List.pairwise_cons.1 uG.2.1).2,fun x hx y hy=>uG.2.2 x hx y (List.mem_cons_of_mem _ hy)⟩
    ·intro p hp id hid
     rw[DJ];refine(hu p (iP p hp) id hid).cA ?_ ?_
     ·rcases List.mem_append.1 hp with h|h
      ·exact(eV p h).l.news id hid
      ·exact((List.pairwise_cons.1 uG.2.1).1 p h).names id hid
     ·rcases List.mem_append.1 hp with h|h
      ·exact(eV p h).l.Jf id (iU hid)
      ·exact((List.pairwise_cons.1 uG.2.1).1 p h).Jf id hid
    ·by_cases mW:q.idx=i
     ·subst mW
      have dN:q.idx<listed.size:=by rw[ht.size];exact(Array.getElem?_eq_some_iff.1 CL).1
      constructor
      ·rintro ⟨p,hp,he⟩;exact absurd he (eW p hp)
      ·intro h;simp[dN]at h
     ·rw[getD_set_ne true mW,<- ht.mem i]
      constructor
      ·rintro ⟨p,hp,he⟩;exact⟨p,iP p hp,he⟩
      ·rintro ⟨p,hp,he⟩
       refine⟨p,?_,he⟩;rcases List.mem_append.1 hp with h|h
       ·exact List.mem_append_left _ h
       ·rcases List.mem_cons.1 h with rfl|h
        ·exact absurd he mW
        ·exact List.mem_append_right _ h
    ·rw[Array.size_setIfInBounds];exact ht.size
    ·intro k o' hk zJ e he hb
     by_cases Hw:q.idx=k
     ·subst Hw
      rw[CL]at zJ;cases zJ;exact getD_set_true (lM e he hb)
     ·rw[getD_set_ne false Hw]at hk
      exact getD_set_true (ht.closed k o' hk zJ e he hb)
end
end Go.PX
