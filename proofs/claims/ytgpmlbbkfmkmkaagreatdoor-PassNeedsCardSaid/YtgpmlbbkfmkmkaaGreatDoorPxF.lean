import Derived.Test.YtgpmlbbkfmkmkaaGreatDoorPxE
import Derived.OrdersIn
import Derived.Scope
set_option linter.all false
namespace Go.PX
open Go.RowKit
theorem qlB(v:V)(K:V->Prop):qob v K=K v:=by cases v<;>rfl
theorem qrf(v:Obj)(K:Obj->Prop):qqF v K=K v:=by
 match v with
 | .box (.dd l)=>exact qiT l _
 | .box (.vv l)=>exact qfW l _
 | .arr _ (.dd _)=>rfl
 | .arr _ (.vv _)=>rfl
 | .map _=>rfl
 | .iter _ _=>rfl
 | .buf _ _=>rfl
 | .tb _ l=>exact qfW l _
 | .mit v n l u=>exact qlB v fun v=>K (.mit v n l u)
theorem qap:∀ (l:Env) (K:Env->Prop),jX l K=K l
 | [],K=>rfl
 | (k,v)::r,K=>by
  show qob v (fun v=>jX r fun r=>K ((k,v)::r))=_;rw[qlB,qap r]
theorem qaJ:∀ (l:Heap) (K:Heap->Prop),qbi l K=K l
 | [],K=>rfl
 | (k,v)::r,K=>by
  show qqF v (fun v=>qbi r fun r=>K ((k,v)::r))=_;rw[qrf,qaJ r]
theorem qdR:∀ (l:List Nat) (K:List Nat->Prop),jv l K=K l
 | [],K=>rfl
 | n::r,K=>by
  show jv r (fun r=>K (n::r))=_;rw[qdR r]
theorem jb{σ:Type}:∀ (ws:List Wr) (st:St σ),(qx st ws).s=st.s
 | [],_=>rfl
 | w::r,st=>by
  rw[qx,jb r];cases w<;>rfl
theorem zy{σ:Type}(s:σ):∀ (ws:List Wr) (e:Env) (h:Heap) (K:Env->Heap->Prop),qP ws e h K=K (qx (⟨e,h,s⟩:St σ) ws).env (qx (⟨e,h,s⟩:St σ) ws).heap
 | [],e,h,K=>rfl
 | w::r,e,h,K=>by
  cases w with
  | set t v=>show jX (put e t v) (fun e'=>qP r e' h K)=_;rw[qap,zy s r];rfl
  | obj id o=>show qbi (put h id o) (fun h'=>qP r e h' K)=_;rw[qaJ,zy s r];rfl
  | new id o=>
   show jX (jT (mapId (qz id)) e) (fun e'=>qbi ((id,o)::jT (Obj.mapId (qz id)) (cut h id)) fun h'=>qP r e' h' K)=_;rw[qap,qaJ,zy s r];rfl
  | newq id o=>show qbi ((id,o)::h) (fun h'=>qP r e h' K)=_;rw[qaJ,zy s r];rfl
  | del id=>show qbi (cut h id) (fun h'=>qP r e h' K)=_;rw[qaJ,zy s r];rfl
section
variable {P : Program} {T : Tys} {e : Env} {h : Heap} {dst : Option Nat} {K : List Wr -> Prop} {ty : TypeId} {pos : String} {after : Array Edge} {guard : Option (Nat × Bool)}
theorem qnf(hT:qU P T){op:Op}(hk:opK T e h dst op K):∃ ws,K ws/\Out P e h ⟨dst,op,ty,pos,after,guard⟩ ws:=by
 cases op;case move=>exact qtg hk
 case assign=>exact qps hk
 case pick=>exact qth hk
 case alloc=>exact qqZ hT hk
 case box=>exact qvp hk
 case build=>exact qra hT hk
 case buildSlice=>exact qiO hT hk
 case load=>exact qtl hT hk
 case store=>exact qrb hT hk
 case nilCheck=>exact qll hk
 case binOp=>exact qqS hT hk
 case unOp=>exact qti hk
 case convert=>exact qna hT hk
 case makeFunc=>exact qls hk
 case fieldAddr=>exact qkb hT hk
 case field=>exact qqU hT hk
 case indexAddr=>exact qkc hT hk
 case index=>exact qqV hT hk
 case slice=>exact qqY hT hk
 case extract=>exact qnb hk
 case range=>exact qrd hT hk
 case makeInterface=>exact qgc hT hk
 case entry=>exact qre hk
 case typeAssert=>exact qiP hT hk
 case next=>exact qtm hk
 case makeMap=>exact qne hk
 case makeSlice=>exact qkj hT hk
 case lookup=>exact qpy hT hk
 case mapUpdate=>exact qki hT hk
 case insert=>exact qpA hT hk
 case mapEntry=>exact qlA hT hk
 case entryStore=>exact qiQ hT hk
 all_goals exact(show False from hk).elim
theorem qgA(hT:qU P T){b:Builtin}{args:Array Operand}{tys:Array TypeId}(hk:jL T e h dst b args tys K):∃ ws,K ws/\Out P e h ⟨dst,.call ⟨.builtin b,args,tys⟩,ty,pos,after,guard⟩ ws:=by
 cases b;case len=>exact qvo hT hk
 case min=>exact qvm hk
 case max=>exact qvn hk
 case append=>exact qpv hT hk
 case copy=>exact qto hT hk
 all_goals exact(show False from hk).elim
end
section
variable {P : Program} {T : Tys} {σ : Type} {Y : Hd σ} {cx : Cx σ} {r : Option Nat} {m : List Nat} {L : Loc} {F : Nat -> Nat} {a : Act} {w : World}
theorem qtp{ops:Array Oper}{e:Env}{h:Heap}{s:σ}{guard:Option (Nat×Bool)}{X Z:List Wr->Prop}(hk:qex ops.toList e guard X Z){dst:Option Nat}{op:Op}{ty:TypeId}{pos:String}{after:Array Edge}
  {st:St σ} (he:qaF e st.env) (hg:Good cx r m L F st a w) :
  ∃ ws,((Region.wanted ⟨dst,op,ty,pos,after,guard⟩ (yielded ops a.tmps)=true/\X ws)\/(Region.wanted ⟨dst,op,ty,pos,after,guard⟩ (yielded ops a.tmps)=false/\Z ws)) /\
   (ws = [] \/ ∃ d v,ws = [.set d v]/\get e d=some v):=by
 unfold qex at hk;unfold Region.wanted;split at hk
 ·exact⟨[],.inl ⟨rfl,hk⟩,.inl rfl⟩
 ·rename_i j want
  split at hk;case h_2=>exact hk.elim
  rename_i d _ _ _ _ _ hj;have hj':(ops[j]?).bind (·.dst)=some d:=by
   rw[Array.getElem?_toList]at hj;rw[hj];rfl
  split at hk
  ·rename_i b hb
   obtain⟨x,hx,hr⟩:=hg.env d _ (he _ _ hb);have hr:x = .bool b:=hr;subst hr;have hy:yielded ops a.tmps j=some b:=by
    unfold yielded;rw[hj'];simp[hx]
   split at hk
   ·rcases qka hk with⟨rfl,hk⟩|⟨rfl,hk⟩
    ·exact⟨_,.inl ⟨by simp[hy],hk⟩,.inr ⟨d,_,rfl,hb⟩⟩
    ·exact⟨_,.inr ⟨by simp[hy],hk⟩,.inr ⟨d,_,rfl,hb⟩⟩
   ·rcases qka hk with⟨rfl,hk⟩|⟨rfl,hk⟩
    ·exact⟨_,.inr ⟨by simp[hy],hk⟩,.inr ⟨d,_,rfl,hb⟩⟩
    ·exact⟨_,.inl ⟨by simp[hy],hk⟩,.inr ⟨d,_,rfl,hb⟩⟩
  ·rename_i hb
   obtain⟨x,hx,l,rfl,hl⟩:=hg.env d _ (he _ _ hb);have hy:yielded ops a.tmps j=none:=by
    unfold yielded;rw[hj'];simp[hx]
   exact⟨[],.inr ⟨by simp[hy],hk⟩,.inl rfl⟩
  ·exact hk.elim
theorem Good.learn{e:Env}{h:Heap}{s:σ}(hg:Good cx r m L F ⟨e,h,s⟩ a w){ws:List Wr}(hw:ws = [] \/ ∃ d v,ws = [.set d v]/\get e d=some v) :
  Good cx r m L F (qx (⟨e,h,s⟩:St σ) ws) a w/\(qx (⟨e,h,s⟩:St σ) ws).heap=h:=by
 rcases hw with rfl|⟨d,v,rfl,hv⟩
 ·exact⟨hg,rfl⟩
 ·refine⟨hg.sub (e:=put e d v) (h:=h) (fun t u hu=>?_) (fun _ _ h=>h),rfl⟩
  rw[jq]at hu;split at hu
  ·rename_i e1;subst e1;cases hu;exact hv
  ·exact hu
theorem jO{d:Option Nat}(x:Value):(a.put d x).tmps.size=a.tmps.size:=by
 cases d<;>simp[Act.put]
theorem qbJ{n:Nat}{f:FuncId}{vs:Array Value}{R:Ending->World->Prop}(h:CallsIn Fence.wide n P f vs w R):CallsIn (fr r) n P f vs w R:=h
theorem qpB{n:Nat}{l:Nat}{f:FuncId}{tmps:Array Value}{asg body:Code}{R:Ending->World->Prop}(h:RoundIn Fence.wide n P l f tmps asg body w R):RoundIn (fr r) n P l f tmps asg body w R:=h
def qrg(cx:Cx σ)(r:Option Nat)(m:List Nat)(F:Nat->Nat)(w:World)(n:Nat)(K:Env->Heap->σ->Prop):Exit->Act->World->Prop:=fun ex a' w'=>
 ∃ e' h' s' L' F',ex = .normal/\K e' h' s'/\Good cx r m L' F' ⟨e',h',s'⟩ a' w'/\Tr F w F' w'/\a'.tmps.size=n
def qfl(Y:Hd σ)(cx:Cx σ)(r:Option Nat)(m:List Nat)(F:Nat->Nat)(w:World)(n:Nat)(K:Env->Heap->σ->Prop):Exit->Act->World->Prop:=fun ex a' w'=>
 qrg cx r m F w n K ex a' w'\/PanicP Y cx r F w n ex a' w'
theorem qor{e:Env}{h:Heap}{o:Oper}{ws:List Wr}(ho:Out P e h o ws){st:St σ}(he:qaF e st.env)(hh:qaF h st.heap)(hg:Good cx r m L F st a w)(hd:∀ k,o.dst=some k->k<a.tmps.size)
  (hnd:∀ c,o.op ≠ .defer c) {next:Act->World->Prop} {Q:Exit->Act->World->Prop} (hn:∀ x L' F' w',Good cx r m L' F' (qx st ws) (a.put o.dst x) w'->Tr F w F' w'->next (a.put o.dst x) w') :
  o.wpIn (fr r) 0 P a w next Q:=by
 obtain⟨x,w',nx,hrun,hx,L',F',hg',tr⟩:=ho cx r m L F st a w he hh hg hd;refine⟨fun _ _=>trivial,?_⟩;rw[Oper.semAt_eq _ _ _ hnd,hrun];rcases hx with rfl|⟨rfl,rfl⟩
 ·exact hn x L' F' w' hg' tr
 ·exact hn undef L' F' w' hg' tr
theorem qtq{dst:Option Nat}{op:Op}{e:Env}{h:Heap}{s:σ}{go:Env->Heap->σ->Prop}(hc:∀ c,op ≠ .call c)(hb:∀ b t x y ty,op ≠ .binOp b t x y ty)(hn:∀ x,op ≠ .next x false)(hp:∀ x,op ≠ .panic x) :
  qqN P T Y dst op e h s go=opK T e h dst op (fun ws=>qP ws e h fun e h=>go e h s):=by
 cases op;case next x b=>
  cases b
  ·exact absurd rfl (hn _)
  ·rfl
 all_goals first|rfl|exact absurd rfl (hc _)|exact absurd rfl (hb _ _ _ _ _)|exact absurd rfl (hp _)
theorem qtr(hT:qU P T){e:Env}{op:BinOp}{t:TypeId}{x y:Operand}{neg:Bool}{ne:Prop}(hk:qoh T e op t x y=some (neg,ne)){st:St σ}(he:qaF e st.env)(hg:Good cx r m L F st a w){dst:Option Nat}{ty ty':TypeId}{pos:String}{after:Array Edge}{guard:Option (Nat×Bool)} :
  ∃ b:Bool,(ne->b=false)/\(execOp a.eval ⟨dst,.binOp op t x y ty',ty,pos,after,guard⟩).run P w = .ok (.value (.bool (qpq neg b))) w:=by
 have hsl:∀ {x:Value},qmV T t=true -> ∃ el,P.underlying t=some (.slice el):=by
  intro _ h;unfold qmV at h;split at h
  ·rename_i ti ht
   split at h
   ·rename_i el hkd
    obtain⟨de,hde,hk1⟩:=jN hT ht;rw[hkd]at hk1;exact⟨el,by rw[hde,jI hk1.symm]⟩
   ·cases h
  ·cases h
 have hrun:∀ (u:Option Addr) (l c:Nat) (el:TypeId),P.underlying t=some (.slice el)->a.eval x = .slice u l c->y = .const (.slice none 0 0) ->
   ((op = .eql->(execOp a.eval ⟨dst,.binOp op t x y ty',ty,pos,after,guard⟩).run P w = .ok (.value (.bool u.isNone)) w)/\(op = .neq->(execOp a.eval ⟨dst,.binOp op t x y ty',ty,pos,after,guard⟩).run P w = .ok (.value (.bool (!u.isNone))) w)):=by
  intro u l c el hu hx hy;subst hy;have hey:a.eval (.const (.slice none 0 0)) = .slice none 0 0:=rfl;have hq:(Op.equal t (.slice u l c) (.slice none 0 0)).run P w = .ok u.isNone w:=by
   rw[Op.equal,show Op.maxDepth=9999+1 from rfl,Op.equalIn];cases u<;>simp[run_underlying hu]
  refine⟨fun ho=>?_,fun ho=>?_⟩<;>subst ho<;>simp[execOp,hx,hey,eqGuard,binOp,hq]
 have hvs:∀ {es:List (List D)},opnd e x=some (.d (.vs es)) -> ∃ u l c,a.eval x = .slice u l c/\(es ≠ []->u.isNone=false):=by
  intro es hx;obtain⟨u,l,c,h1,h2,h3,h4⟩:=hg.opnd (qo he hx);refine⟨u,l,c,h1,fun hne=>?_⟩;obtain⟨b,off,sz,h5,_⟩:=h4 hne;rw[h5];rfl
 have hsl2:∀ {id sz off n:Nat},opnd e x=some (.sl id sz off n) -> ∃ u l c,a.eval x = .slice u l c/\(0<n->u.isNone=false):=by
  intro id sz off n hx;obtain⟨u,c,h1,h2,h3,h4⟩:=hg.opnd (qo he hx);refine⟨u,n,c,h1,fun hn=>?_⟩;rcases h4 with⟨h4,_⟩|⟨h4,_⟩
  ·omega
  ·rw[h4];rfl
 unfold qoh at hk;split at hk
 ·rename_i hs hx
  cases hk;obtain⟨el,hu⟩:=hsl (x:=undef) hs;obtain⟨u,l,c,h1,h2⟩:=hvs hx;exact⟨u.isNone,h2,(hrun u l c el hu h1 rfl).1 rfl⟩
 ·rename_i hs hx
  cases hk;obtain⟨el,hu⟩:=hsl (x:=undef) hs;obtain⟨u,l,c,h1,h2⟩:=hvs hx;exact⟨u.isNone,h2,(hrun u l c el hu h1 rfl).2 rfl⟩
 ·rename_i hs hx
  cases hk;obtain⟨el,hu⟩:=hsl (x:=undef) hs;obtain⟨u,l,c,h1,h2⟩:=hsl2 hx;exact⟨u.isNone,h2,(hrun u l c el hu h1 rfl).1 rfl⟩
 ·rename_i hs hx
  cases hk;obtain⟨el,hu⟩:=hsl (x:=undef) hs;obtain⟨u,l,c,h1,h2⟩:=hsl2 hx;exact⟨u.isNone,h2,(hrun u l c el hu h1 rfl).2 rfl⟩
 ·rename_i hs hx
  cases hk;obtain⟨el,hu⟩:=hsl (x:=undef) hs;have h1:a.eval x = .slice none 0 0:=hg.opnd (qo he hx);exact⟨false,fun _=>rfl,(hrun none 0 0 el hu h1 rfl).1 rfl⟩
 ·rename_i hs hx
  cases hk;obtain⟨el,hu⟩:=hsl (x:=undef) hs;have h1:a.eval x = .slice none 0 0:=hg.opnd (qo he hx);exact⟨false,fun _=>rfl,(hrun none 0 0 el hu h1 rfl).2 rfl⟩
 ·cases hk
theorem qrh{t:TypeId}{n:String}{g:FuncId}(hm:∀ v w,(method (P.types.size+Made.depth) t v n).run P w = .ok (g,v) w)(hent:∀ (vs:Array Value) (w:World),(callFunc g vs).run P w = .ok (.enter g vs) w){a:Act}{f:Operand}{y:Value}(hev:a.eval f = .iface t y){w:World}
  {dst:Option Nat} {args:Array Operand} {tys:Array TypeId} {ty:TypeId} {pos:String} {after:Array Edge} {guard:Option (Nat×Bool)} :
  (execOp a.eval ⟨dst,.call ⟨.invoke f n,args,tys⟩,ty,pos,after,guard⟩).run P w = .ok (.enter g (#[y]++args.map a.eval)) w:=by
 have hx:(#[a.eval f]++args.map a.eval).extract 1 (#[a.eval f]++args.map a.eval).size=args.map a.eval:=by
  apply Array.ext';simp only[Array.toList_extract,Array.toList_append,Array.toList_map,Array.size_append,Array.size_map];simp[List.extract];rw[List.take_of_length_le (by simp)]
 have h0:(#[a.eval f]++args.map a.eval)[0]?=some (.iface t y):=by
  rw[<- hev,Array.getElem?_append_left (by simp)];rfl
 simp only[execOp,resolve,Sem.run_bind,Sem.run_pure,Result.andThen_ok,invoke,h0,hx,callMethod];simp[program,Sem.run,Sem.run_bind,hm,hent]
theorem qos{e:Env}{h:Heap}{s:σ}{cx:Cx σ}{r:Option Nat}{m:List Nat}{L:Loc}{F:Nat->Nat}{a:Act}{w:World}(hg:Good cx r m L F ⟨e,h,s⟩ a w){args:Array Operand}{l':List V}(hl:opnds e args.toList=some l'){v:D}{y:Value}(hv:RepD F w v y) :
  RepVL cx.yv L F w (.d v::l') (#[y]++args.map a.eval).toList:=by
 refine⟨y,args.toList.map a.eval,by simp,hv,hg.opnds hl⟩
theorem qng{w:World}{rv:Nat}{m:Nat}{n:Nat}{seen:Array Nat}{en:Array MapEntry}{c:Nat}{ty:TypeId}(hr:w.heap[rv]?=some (.mapIter (some m) n seen n))(hm:w.heap[m]?=some (.map en c))(hb:Born en c)(hn:en.size=n) :
  ((∀ i,i<n->seen.contains i=true)/\(∃ d,(Instr.next (.pointer (some ⟨rv,0,none⟩)) false ty).run P w = .ok (.tuple #[.bool false]) { w with drawn:=d })) \/
  (∃ (i:Nat) (e:MapEntry) (d:Nat),i<n/\seen.contains i=false/\en[i]?=some e/\(Instr.next (.pointer (some ⟨rv,0,none⟩)) false ty).run P w = .ok (.tuple #[.bool true,e.key,e.val]) { w with drawn:=d,heap:=w.heap.setIfInBounds rv (.mapIter (some m) n (seen.push i) n) }):=by
 have hcn:c=n:=by rw[hb.1,hn]
 subst hcn;have hborn:∀ (i:Nat) (e:MapEntry),en[i]?=some e->e.born=i:=hb.2;have hall:(!seen.isEmpty && !en.isEmpty&&en.all (·.born≥c))=false:=by
  by_cases he:en.size=0
  ·have:en = #[]:=Array.eq_empty_of_size_eq_zero he
   subst this;simp
  ·have h0:en[0]?=some en[0]:=Array.getElem?_eq_getElem (by omega)
   have hb0:=hborn 0 _ h0;have:en.all (·.born≥c)=false:=by
    rw[Array.all_eq_false];exact⟨0,by omega,by rw[hb0];simp;omega⟩
   simp[this]
 have hnew:((en.filter fun e=>!seen.contains e.born).filter (·.born≥c)) = #[]:=by
  rw[Array.filter_eq_empty_iff];intro e he;obtain⟨he,_⟩:=Array.mem_filter.1 he;obtain⟨i,hi,rfl⟩:=Array.mem_iff_getElem.1 he;have:=hborn i _ (Array.getElem?_eq_getElem hi);simp[this];omega
 have hold:((en.filter fun e=>!seen.contains e.born).filter (·.born<c))=en.filter fun e=>!seen.contains e.born:=by
  rw[Array.filter_eq_self];intro e he;obtain⟨he,_⟩:=Array.mem_filter.1 he;obtain⟨i,hi,rfl⟩:=Array.mem_iff_getElem.1 he;have:=hborn i _ (Array.getElem?_eq_getElem hi);simp[this];omega
 generalize hleft:(en.filter fun e=>!seen.contains e.born)=left at hnew hold;by_cases hz:left = #[]
 ·left
  refine⟨fun i hi=>?_,w.drawn,?_⟩
  ·have he:en[i]?=some en[i]:=Array.getElem?_eq_getElem (by omega)
   have hbi:=hborn i _ he
   cases hs:seen.contains i with
   | true=>rfl
   | false=>
    exfalso;have:en[i]∈en.filter fun e=>!seen.contains e.born:=Array.mem_filter.2 ⟨Array.getElem_mem _,by rw[hbi,hs];rfl⟩;rw[hleft,hz]at this;simp at this
  ·simp only[Instr.next,getObj,Sem.run_bind,Sem.run,hr,Result.andThen,hm]
   simp only[hall,hleft,hold,hnew];subst hz;simp[choose,Sem.run,Sem.run_bind,Question.forced]
 ·right
  have hpos:0<left.size:=Nat.pos_of_ne_zero fun h=>hz (Array.eq_empty_of_size_eq_zero h);have hemp:left.isEmpty=false:=by
   rw[Array.isEmpty_eq_false_iff];exact hz
  have pick:∀ (j d:Nat),j<left.size -> ∃ (i:Nat) (e:MapEntry),i<c/\seen.contains i=false/\en[i]?=some e/\left[j]?=some e/\e.born=i:=by
   intro j d hj;have hmem:left[j]∈(en.filter fun e=>!seen.contains e.born):=by rw[hleft];exact Array.getElem_mem _
   obtain⟨hmem,hs⟩:=Array.mem_filter.1 hmem;obtain⟨i,hi,he⟩:=Array.mem_iff_getElem.1 hmem;have hbi:=hborn i _ (Array.getElem?_eq_getElem hi);refine⟨i,en[i],by omega,?_,Array.getElem?_eq_getElem hi,?_,hbi⟩
   ·rw[<- he,hbi]at hs
    simpa using hs
   ·rw[he];exact Array.getElem?_eq_getElem hj
  have fin:∀ (j d:Nat),j<left.size->((Instr.next (.pointer (some ⟨rv,0,none⟩)) false ty).run P w=(match ((#[]:Array (Option MapEntry))++(left ++ #[]).map some)[j]? with
    | some (some e)=>(do setObj rv (.mapIter (some m) c (seen.push e.born) c);pure (.tuple #[.bool true,e.key,e.val]):Sem Value)
    | some none=>pure (.tuple #[.bool false])
    | none => stuck "Next: no such candidate").run P { w with drawn := d }) -> ∃ (i : Nat) (e : MapEntry) (d : Nat), i < c /\ seen.contains i = false /\ en[i]? = some e /\ (Instr.next (.pointer (some ⟨rv, 0, none⟩)) false ty).run P w = .ok (.tuple #[.bool true, e.key, e.val]) { w with drawn := d, heap := w.heap.setIfInBounds rv (.mapIter (some m) c (seen.push i) c) } := by
   intro j d hj hrun;obtain⟨i,e,h1,h2,h3,h4,h5⟩:=pick j d hj;refine⟨i,e,d,h1,h2,h3,?_⟩;rw[hrun];have:((#[]:Array (Option MapEntry))++(left ++ #[]).map some)[j]?=some (some e):=by simp[h4]
   simp only[this,h5];simp[setObj,Sem.run,Sem.run_bind,hr]
  by_cases hf:(Question.mapNext left.size).forced=true
  ·refine fin 0 w.drawn hpos ?_
   simp only[Instr.next,getObj,Sem.run_bind,Sem.run,hr,Result.andThen,hm];simp only[hall,hleft,hold,hnew,hemp];simp[choose,Sem.run,Sem.run_bind,hf];rfl
  ·refine fin (w.tape w.drawn (.mapNext left.size)%left.size) (w.drawn+1) (Nat.mod_lt _ hpos) ?_
   simp only[Instr.next,getObj,Sem.run_bind,Sem.run,hr,Result.andThen,hm];simp only[hall,hleft,hold,hnew,hemp];simp[choose,Sem.run,Sem.run_bind,hf,Question.cut];rfl
theorem qpC{dst:Option Nat}{x:Operand}{ty:TypeId}{pos:String}{after:Array Edge}{guard:Option (Nat×Bool)}{e:Env}{h:Heap}{s:σ}{go:Env->Heap->σ->Prop}{L:Loc}{F:Nat->Nat}{a:Act}{w:World}
  (hg:Good cx r m L F ⟨e,h,s⟩ a w) (hdd:∀ d,dst=some d->d<a.tmps.size) (hk:qvh dst x e h s go)
  {next:Act->World->Prop} {Q:Exit->Act->World->Prop} (hnx:∀ e' h' s' L' F' a' w',Good cx r m L' F' ⟨e',h',s'⟩ a' w'->a'.tmps.size=a.tmps.size->Tr F w F' w'->go e' h' s'->next a' w') :
  Oper.wpIn (fr r) 0 P ⟨dst,.next x false,ty,pos,after,guard⟩ a w next Q:=by
 unfold qvh at hk;split at hk;case h_2=>exact hk.elim
 rename_i id hx;split at hk;case h_2=>exact hk.elim
 rename_i v n todo cur hid;split at hk;case h_2=>exact hk.elim
 rename_i kvs hkv;obtain⟨hn,h0,h1⟩:=hk;have hev:a.eval x = .pointer (some ⟨L.ρ id,0,none⟩):=hg.opnd hx;obtain⟨rb,seen,hv,hb,htodo,_⟩:=hg.heap.obj id _ hid;obtain⟨en,c,hm,hr,hbn⟩:=quL hg (fun _ _ h=>h) hkv hv;have hsz:en.size=n:=by rw[<- hn];simpa using RepKv.get hr
 refine⟨fun _ _=>trivial,?_⟩;rw[Oper.semAt_eq _ _ _ (fun c e=>by cases e)];rcases qng (P:=P) (ty:=ty) hb hm hbn hsz with⟨hall,d,hrun⟩|⟨i,en1,d,hi,hs,hen,hrun⟩
 ·have ht0:todo = []:=by
   rw[List.eq_nil_iff_forall_not_mem];intro i hi;obtain⟨h2,h3⟩:=(htodo i).1 hi;rw[hall i h2]at h3;cases h3
  have hk:=h0 ht0;have hrun':(execOp a.eval ⟨dst,.next x false,ty,pos,after,guard⟩).run P w = .ok (.value (.tuple #[.bool false])) { w with drawn:=d }:=by simp[execOp,hev,hrun]
  rw[hrun'];have hg1:=hg.same (w':={ w with drawn:=d }) rfl rfl rfl rfl;have hg2:=hg1.wset (d:=dst) (v:=.d (.tup [.bool false])) (x:=.tuple #[.bool false]) hdd ⟨_,rfl,_,_,rfl,rfl,rfl⟩;simp only at hk;rw[zy s]at hk;have hs2:(qx (⟨e,h,s⟩:St σ) (wset dst (.d (.tup [.bool false])))).s=s:=jb _ _;generalize (qx (⟨e,h,s⟩:St σ) (wset dst (.d (.tup [.bool false]))))=st2 at hk hg2 hs2;obtain⟨e2,h2,s2⟩:=st2;simp only at hk hs2;subst hs2;exact hnx _ _ _ _ _ _ _ hg2 (jO _) (Tr.drew d) hk
 ·have hti:i∈todo:=(htodo i).2 ⟨hi,hs⟩
  obtain⟨k,u,hku,hkr,hur⟩:∃ k u,kvs[i]?=some (k,u)/\RepD F w k en1.key/\RepD F w u en1.val:=RepKv.at hr (by simpa using hen);have hk:=h1 i (k,u) hti hku;simp only at hk;have hrun':(execOp a.eval ⟨dst,.next x false,ty,pos,after,guard⟩).run P w = .ok (.value (.tuple #[.bool true,en1.key,en1.val])) { w with drawn:=d,heap:=w.heap.setIfInBounds (L.ρ id) (.mapIter (some rb) n (seen.push i) n) }:=by simp[execOp,hev,hrun]
  rw[hrun'];have hg1:=hg.same (w':={ w with drawn:=d }) rfl rfl rfl rfl;have hlt:=(Array.getElem?_eq_some_iff.1 hb).1;have tr0:Tr F w F { w with drawn:=d }:=Tr.drew d;have tr1:Tr F w F { w with drawn:=d,heap:=w.heap.setIfInBounds (L.ρ id) (.mapIter (some rb) n (seen.push i) n) }:=by
   refine .of_keep rfl rfl rfl (by simp) (fun _=>Nat.le_refl _) hg.heap.fresh fun b _ hF=>?_;have:L.ρ id≠b:=by rintro rfl;have:=(hg.heap.own id _ hid trivial).1;omega
   simp[Array.getElem?_setIfInBounds_ne this]
  obtain⟨g1,g2⟩:=hg1.obj (o:=.mit v n (todo.filter fun j=>!Nat.beq j i) (some i)) (id:=id) hid trivial (w':={ w with drawn:=d,heap:=w.heap.setIfInBounds (L.ρ id) (.mapIter (some rb) n (seen.push i) n) }) rfl rfl rfl (by simp) (fun y hy=>by simp[Array.getElem?_setIfInBounds_ne (Ne.symm hy)])
   (by intro ds;show w.heap[L.ρ id]?≠_;rw[hb];intro e;cases e) (by intro lp;show w.heap[L.ρ id]?≠_;rw[hb];intro e;cases e)
   ⟨rb,seen.push i,RepV.mono tr1 v _ (fun _ _=>⟨rfl,rfl⟩) hv,by simp[Array.getElem?_setIfInBounds,hlt],fun j=>by
    have hji:Nat.beq j i=false↔j≠i:=by
     rw[Bool.eq_false_iff];exact⟨fun h e=>h (by subst e;simp),fun h e=>h (Nat.eq_of_beq_eq_true e)⟩
    simp only[List.mem_filter,htodo,Bool.not_eq_true',hji,Array.contains_push,Bool.or_eq_false_iff,beq_eq_false_iff_ne];constructor
    ·rintro ⟨⟨p1,p2⟩,p3⟩;exact⟨p1,p2,fun e=>p3 e⟩
    ·rintro ⟨p1,p2,p3⟩;exact⟨⟨p1,p2⟩,fun e=>p3 e⟩,fun j ej=>by cases ej;simp⟩
  have hg2:=g1.wset (d:=dst) (v:=.d (.tup [.bool true,k,u])) (x:=.tuple #[.bool true,en1.key,en1.val]) hdd ⟨_,rfl,_,_,rfl,rfl,_,_,rfl,RepD.mono tr1 _ _ hkr,_,_,rfl,RepD.mono tr1 _ _ hur,rfl⟩;rw[zy s]at hk;have hs2:(qx (⟨e,h,s⟩:St σ) (.obj id (.mit v n (todo.filter fun j=>!Nat.beq j i) (some i))::wset dst (.d (.tup [.bool true,k,u])))).s=s:=jb _ _;have key:∀ (st2:St σ),Good cx r m L F st2 (a.put dst (.tuple #[.bool true,en1.key,en1.val])) { w with drawn:=d,heap:=w.heap.setIfInBounds (L.ρ id) (.mapIter (some rb) n (seen.push i) n) }->st2.s=s->go st2.env st2.heap s->next (a.put dst (.tuple #[.bool true,en1.key,en1.val])) { w with drawn:=d,heap:=w.heap.setIfInBounds (L.ρ id) (.mapIter (some rb) n (seen.push i) n) }:=by
   rintro ⟨e2,h2,s2⟩ q1 q2 q3;simp only at q2 q3;subst q2;exact hnx _ _ _ _ _ _ _ q1 (jO _) tr1 q3
  exact key _ hg2 hs2 hk
theorem qjh(hT:qU P T)(hY:Handles P Y cx){ops:Array Oper}{i:Nat}{dst:Option Nat}{op:Op}{ty:TypeId}{pos:String}{after:Array Edge}{guard:Option (Nat×Bool)}(h0:ops[i]?=some ⟨dst,op,ty,pos,after,guard⟩){e:Env}{h:Heap}{s:σ}{go:Env->Heap->σ->Prop}{L:Loc}{F:Nat->Nat}{a:Act}{w:World}
  (hg:Good cx r m L F ⟨e,h,s⟩ a w) (hdd:∀ d,dst=some d->d<a.tmps.size)
  (hk:qex ops.toList e guard (fun w=>qP w e h fun e h=>qqN P T Y dst op e h s go) (fun w=>qP w e h fun e h=>qP (wset dst (.d (.tup []))) e h fun e h=>go e h s))
  {next:Act->World->Prop} {Q:Exit->Act->World->Prop} (hnx:∀ e' h' s' L' F' a' w',Good cx r m L' F' ⟨e',h',s'⟩ a' w'->a'.tmps.size=a.tmps.size->Tr F w F' w'->go e' h' s'->next a' w') (hpan:∀ e a' w',PanicP Y cx r F w a.tmps.size e a' w'->Q e a' w'):wpOpIn (fr r) 0 P ops Q i next a w:=by
  simp only[wpOpIn,h0];obtain⟨gws,hgw,hlearn⟩:=qtp (s:=s) (h:=h) (dst:=dst) (op:=op) (ty:=ty) (pos:=pos) (after:=after) hk (fun _ _ h=>h) hg;clear hk;obtain⟨hg1,hheap⟩:=hg.learn hlearn;rcases hgw with⟨hw,hk⟩|⟨hw,hk⟩
  ·rw[hw]
   simp only[if_true];rw[zy s]at hk;have hss:(qx (⟨e,h,s⟩:St σ) gws).s=s:=jb _ _;generalize (qx (⟨e,h,s⟩:St σ) gws)=st1 at hk hg1 hss;obtain⟨e1,h1,s1⟩:=st1;simp only at hk hss;subst hss;have fin:∀ {o:Oper} {ws:List Wr},o=⟨dst,op,ty,pos,after,guard⟩->Out P e1 h1 o ws->qP ws e1 h1 (fun e h=>go e h s1)->(∀ c,op ≠ .defer c) ->
     Oper.wpIn (fr r) 0 P ⟨dst,op,ty,pos,after,guard⟩ a w next Q:=by
    intro o ws ho hout hk hnd;subst ho;refine qor hout (st:=⟨e1,h1,s1⟩) (fun _ _ h=>h) (fun _ _ h=>h) hg1 hdd hnd fun x L' F' w' hg' tr'=>?_;rw[zy s1]at hk;have hs2:(qx (⟨e1,h1,s1⟩:St σ) ws).s=s1:=jb _ _;generalize (qx (⟨e1,h1,s1⟩:St σ) ws)=st2 at hk hg' hs2;obtain⟨e2,h2,s2⟩:=st2;simp only at hk hs2;subst hs2;exact hnx _ _ _ _ _ _ _ hg' (jO _) tr' hk
   by_cases hcall:∃ c,op = .call c
   ·obtain⟨⟨callee,args,tys⟩,rfl⟩:=hcall
    cases callee with
    | builtin b=>
     obtain⟨ws,hk,hout⟩:=qgA (P:=P) (e:=e1) (h:=h1) (dst:=dst) (b:=b) (args:=args) (tys:=tys) (K:=fun ws=>qP ws e1 h1 fun e h=>go e h s1) (ty:=ty) (pos:=pos) (after:=after) (guard:=guard) hT hk;exact fin rfl hout hk (fun c e=>by cases e)
    | invoke f n=>
     have hk:qxN P Y dst f n args.toList e1 h1 s1 go:=hk;unfold qxN at hk;split at hk;case h_2=>exact hk.elim
     rename_i t v l' hf hl1;obtain⟨g,hm,hk⟩:=hk;obtain⟨hent,hcall⟩:=hk;obtain⟨y,hev,hv⟩:=hg1.opnd hf;have hargs:=qos hg1 hl1 hv;have hcall:=hcall cx hY r m L F a w (#[y]++args.map a.eval) hg1 hdd hargs;have hrun:=qrh (P:=P) hm hent hev (w:=w) (dst:=dst) (args:=args) (tys:=tys) (ty:=ty) (pos:=pos) (after:=after) (guard:=guard);refine⟨fun _ _=>trivial,?_⟩;rw[Oper.semAt_eq _ _ _ (fun c e=>by cases e),hrun,Oper.uponIn_enter];refine⟨(fun h=>by cases h),(qbJ hcall).mono ?_⟩;rintro en w' (⟨x,rfl,st',L',F',hk',hg',tr'⟩|⟨pv,pe,ph,ps,L',F',rfl,hy,hgp,trp⟩);case inr=>exact hpan _ _ _ ⟨pv,pe,ph,ps,m,L',F',rfl,hy,hgp,trp,rfl⟩
     obtain⟨e2,h2,s2⟩:=st';exact hnx _ _ _ _ _ _ _ hg' (jO _) tr' hk'
    | value f=>
     have hk:qvg P Y dst f args.toList e1 h1 s1 (go):=hk;unfold qvg at hk;have call:∀ (g:FuncId) (capv:List V) (lc:Array Value) (l':List V),opnds e1 args.toList=some l'->a.eval f = .func (.func g) #[] lc->RepVL cx.yv L F w capv lc.toList ->
       CallA P Y ⟨e1,h1,s1⟩ dst g (l'++capv) (fun|⟨e,h,s⟩=>go e h s) ->
       Oper.wpIn (fr r) 0 P ⟨dst,.call ⟨.value f,args,tys⟩,ty,pos,after,guard⟩ a w next Q:=by
      intro g capv lc l' hl1 hev hcap hc;obtain⟨hent,hcall⟩:=hc;have hargs:RepVL cx.yv L F w (l'++capv) (args.map a.eval++lc).toList:=by
       simpa using (hg1.opnds hl1).append hcap
      have hcall:=hcall cx hY r m L F a w (args.map a.eval++lc) hg1 hdd hargs;have hrun:(execOp a.eval ⟨dst,.call ⟨.value f,args,tys⟩,ty,pos,after,guard⟩).run P w = .ok (.enter g (args.map a.eval++lc)) w:=by
       simp[execOp,resolve,Deferred.ofValue,hev,invoke,hent]
      refine⟨fun _ _=>trivial,?_⟩;rw[Oper.semAt_eq _ _ _ (fun c e=>by cases e),hrun,Oper.uponIn_enter];refine⟨(fun h=>by cases h),(qbJ hcall).mono ?_⟩;rintro en w' (⟨x,rfl,st',L',F',hk',hg',tr'⟩|⟨pv,pe,ph,ps,L',F',rfl,hy,hgp,trp⟩);case inr=>exact hpan _ _ _ ⟨pv,pe,ph,ps,m,L',F',rfl,hy,hgp,trp,rfl⟩
      obtain⟨e2,h2,s2⟩:=st';exact hnx _ _ _ _ _ _ _ hg' (jO _) tr' hk'
     split at hk
     ·rename_i g caps l' hf hl1
      obtain⟨lc,hev,hcap⟩:=hg1.opnd hf;exact call g (inj caps) lc l' hl1 hev (RepVL.inj.2 hcap) hk
     ·rename_i g caps l' hf hl1
      obtain⟨lc,hev,hcap⟩:=hg1.opnd hf;exact call g caps lc l' hl1 hev hcap hk
     ·rename_i g first l' hf hl1
      obtain⟨lf,hev,hfirst⟩:=hg1.opnd hf;obtain⟨hent,hcall⟩:=hk;have hargs:RepVL cx.yv L F w (inj first++l') (lf++args.map a.eval).toList:=by
       simpa using (RepVL.inj.2 hfirst).append (hg1.opnds hl1)
      have hcall:=hcall cx hY r m L F a w (lf++args.map a.eval) hg1 hdd hargs;have hrun:(execOp a.eval ⟨dst,.call ⟨.value f,args,tys⟩,ty,pos,after,guard⟩).run P w = .ok (.enter g (lf++args.map a.eval)) w:=by
       simp[execOp,resolve,Deferred.ofValue,hev,invoke,hent]
      refine⟨fun _ _=>trivial,?_⟩;rw[Oper.semAt_eq _ _ _ (fun c e=>by cases e),hrun,Oper.uponIn_enter];refine⟨(fun h=>by cases h),(qbJ hcall).mono ?_⟩;rintro en w' (⟨x,rfl,st',L',F',hk',hg',tr'⟩|⟨pv,pe,ph,ps,L',F',rfl,hy,hgp,trp⟩);case inr=>exact hpan _ _ _ ⟨pv,pe,ph,ps,m,L',F',rfl,hy,hgp,trp,rfl⟩
      obtain⟨e2,h2,s2⟩:=st';exact hnx _ _ _ _ _ _ _ hg' (jO _) tr' hk'
     ·rename_i l' hf hl1
      obtain⟨lp,hlp,hev⟩:=hg1.opnd hf;obtain⟨hc⟩:=hk;have hargs:RepVL cx.yv L F w l' (args.map a.eval).toList:=by simpa using hg1.opnds hl1
      obtain⟨fn,tmps,asg,body,hrun',hround⟩:=hc cx hY lp hlp r m L F a w (args.map a.eval) hg1 hdd hargs;have hrun:(execOp a.eval ⟨dst,.call ⟨.value f,args,tys⟩,ty,pos,after,guard⟩).run P w = .ok (.round lp fn tmps asg body) w:=by
       simp[execOp,resolve,Deferred.ofValue,hev,invoke,hrun']
      refine⟨fun _ _=>trivial,?_⟩;rw[Oper.semAt_eq _ _ _ (fun c e=>by cases e),hrun,Oper.uponIn_round];refine⟨(fun h=>by cases h),(qpB hround).mono ?_⟩;rintro en w' ⟨x,rfl,st',L',F',hk',hg',tr'⟩;obtain⟨e2,h2,s2⟩:=st';exact hnx _ _ _ _ _ _ _ hg' (jO _) tr' hk'
     ·exact hk.elim
   ·by_cases hbin:∃ b t x y ty,op = .binOp b t x y ty
    ·obtain⟨b,t,x,y,ty',rfl⟩:=hbin
     have hk:(match qoh T e1 b t x y with
      | some (neg,ne)=>NilA neg ne fun b=>qP (wset dst (.d (.bool b))) e1 h1 fun e h=>go e h s1
      | none=>opK T e1 h1 dst (.binOp b t x y ty') fun ws=>qP ws e1 h1 fun e h=>go e h s1):=hk
     split at hk
     ·rename_i neg ne hn
      obtain⟨hk⟩:=hk;obtain⟨bb,hb1,hrun⟩:=qtr (P:=P) hT hn (st:=⟨e1,h1,s1⟩) (fun _ _ h=>h) hg1 (dst:=dst) (ty:=ty) (ty':=ty') (pos:=pos) (after:=after) (guard:=guard);have hk:=hk bb hb1;have hg2:=hg1.wset (d:=dst) (v:=.d (.bool (qpq neg bb))) (x:=.bool (qpq neg bb)) hdd rfl;refine⟨fun _ _=>trivial,?_⟩;rw[Oper.semAt_eq _ _ _ (fun c e=>by cases e),hrun];rw[zy s1]at hk;have hs2:(qx (⟨e1,h1,s1⟩:St σ) (wset dst (.d (.bool (qpq neg bb))))).s=s1:=jb _ _;generalize (qx (⟨e1,h1,s1⟩:St σ) (wset dst (.d (.bool (qpq neg bb)))))=st2 at hk hg2 hs2;obtain⟨e2,h2,s2⟩:=st2;simp only at hk hs2;subst hs2;exact hnx _ _ _ _ _ _ _ hg2 (jO _) (Tr.refl F w) hk
     ·obtain⟨ws,hk,hout⟩:=qnf (P:=P) (ty:=ty) (pos:=pos) (after:=after) (guard:=guard) hT hk
      exact fin rfl hout hk (fun c e=>by cases e)
    by_cases hnext:∃ x,op = .next x false
    ·obtain⟨x,rfl⟩:=hnext
     exact qpC (P:=P) (ty:=ty) (pos:=pos) (after:=after) (guard:=guard) hg1 hdd hk hnx
    by_cases hpan':∃ x,op = .panic x
    ·obtain⟨x,rfl⟩:=hpan'
     have hk:qxO Y x e1 h1 s1:=hk;unfold qxO at hk;split at hk;case h_2=>exact hk.elim
     rename_i t k n hx;have hev:a.eval x = .iface t (.int k n):=by
      obtain⟨y,h2,h3⟩:=hg1.opnd hx;have h3:y = .int k n:=h3;rw[h2,h3]
     refine⟨fun _ _=>trivial,?_⟩;have hrun:(execOp a.eval ⟨dst,.panic x,ty,pos,after,guard⟩).run P w = .halt (.panic (.iface t (.int k n))) w:=by
      simp[execOp,hev,Instr.panic,goPanic]
     rw[Oper.semAt_eq _ _ _ (fun c e=>by cases e),hrun];exact hpan _ _ _ ⟨_,e1,h1,s1,m,L,F,rfl,hk,hg1,Tr.refl F w,rfl⟩
    rw[qtq (fun c hc=>hcall ⟨c,hc⟩) (fun b t x y ty hc=>hbin ⟨b,t,x,y,ty,hc⟩) (fun x hc=>hnext ⟨x,hc⟩) (fun x hc=>hpan' ⟨x,hc⟩)]at hk;have hnd:∀ c,op ≠ .defer c:=fun c hc=>by subst hc;exact hk
    obtain⟨ws,hk,hout⟩:=qnf (P:=P) (ty:=ty) (pos:=pos) (after:=after) (guard:=guard) hT hk;exact fin rfl hout hk hnd
  ·rw[hw]
   simp only[Bool.false_eq_true,if_false];refine⟨fun _ _=>trivial,?_⟩;rw[zy s]at hk;have hss:(qx (⟨e,h,s⟩:St σ) gws).s=s:=jb _ _;generalize (qx (⟨e,h,s⟩:St σ) gws)=st1 at hk hg1 hss;obtain⟨e1,h1,s1⟩:=st1;simp only at hk hss;subst hss;rw[zy s1]at hk;have hg2:=hg1.wset (d:=dst) (v:=.d (.tup [])) (x:=undef) hdd ⟨#[],rfl,rfl⟩;have hs2:(qx (⟨e1,h1,s1⟩:St σ) (wset dst (.d (.tup [])))).s=s1:=jb _ _;generalize (qx (⟨e1,h1,s1⟩:St σ) (wset dst (.d (.tup []))))=st2 at hk hg2 hs2;obtain⟨e2,h2,s2⟩:=st2;simp only at hk hs2;subst hs2;exact hnx _ _ _ _ _ _ _ hg2 (jO _) (Tr.refl F w) hk
theorem qeL(hT:qU P T)(hY:Handles P Y cx){ops:Array Oper}{F0:Nat->Nat}{w0:World}{n0:Nat}:∀ (l:List Oper) (i:Nat) (hl:∀ j,l[j]?=ops[i+j]?) {e:Env} {h:Heap} {s:σ} {K:Env->Heap->σ->Prop} {L:Loc} {F:Nat->Nat} {a:Act} {w:World},
  Good cx r m L F ⟨e,h,s⟩ a w->a.tmps.size=n0->(∀ o∈l,∀ d,o.dst=some d->d<n0)->Tr F0 w0 F w->qmW P T Y ops.toList l e h s K ->
  wpOpsIn (fr r) 0 P ops (qfl Y cx r m F0 w0 n0 K) (List.range' i l.length) a w
 | [],i,hl,e,h,s,K,L,F,a,w,hg,hs,hd,tr,hk=>.inl ⟨e,h,s,L,F,rfl,hk,hg,tr,hs⟩
 | ⟨dst,op,ty,pos,after,guard⟩::l,i,hl,e,h,s,K,L,F,a,w,hg,hs,hd,tr,hk=>by
  rw[qpr]at hk;have h0:ops[i]?=some ⟨dst,op,ty,pos,after,guard⟩:=by simpa using (hl 0).symm
  have hl':∀ j,l[j]?=ops[i+1+j]?:=fun j=>by have:=hl (j+1);simpa[Nat.add_assoc,Nat.add_comm 1 j]using this
  have hdd:∀ d,dst=some d->d<a.tmps.size:=fun d hd'=>by rw[hs];exact hd _ (List.mem_cons_self ..) d hd'
  have hdl:∀ o∈l,∀ d,o.dst=some d->d<n0:=fun o ho=>hd o (List.mem_cons_of_mem _ ho);rw[List.length_cons,List.range'_succ,wpOpsIn_cons];exact qjh hT hY h0 hg hdd hk (fun e' h' s' L' F' a' w' hg' hs' tr' hk'=>qeL hT hY l (i+1) hl' hg' (hs'.trans hs) hdl (Tr.trans tr tr') hk') fun e' a' w' hp=>.inr (hp.trans tr hs)
end
section
variable {F : Fence} {n : Nat} {P : Program} {Q : Exit -> Act -> World -> Prop} {a : Act} {w : World} {b : Frame} {k : List Item} {cs : List Frame}
theorem qaY{c:Code}:step P (lone (b.atR a (.code (.scope c)::k)) cs w) = .next (lone (b.atR a (.code c :: .inScope c::k)) cs w):=
 step_lone_go (by simp[stepG,stepG.exec,Frame.atR])
theorem qkk{c:Code}:step P (lone (b.atR a (.inScope c::k)) cs w) = .next (lone (b.atR a k) cs w):=
 step_lone_go (by simp[stepG,stepG.exec,Frame.atR])
theorem qpD{c:Code}(h:c.wpIn F n P (Exit.noGoto Q) a w):(Code.scope c).wpIn F n P Q a w:=by
 intro b k cs hro hb hr;have h0:(lone (b.atR a (.code (.scope c)::k)) cs w).fenced P F:=fenced_calm hb hr rfl;obtain⟨e,a₁,w₁,hq,harr⟩:=h b (.inScope c::k) cs hro hb hr
 cases e with
 | normal=>exact⟨.normal,a₁,w₁,hq,.head h0 qaY (StepsIn.trans harr (.one (fenced_calm hb hr rfl) qkk))⟩
 | exit id'=>
  have hx:exitTo id' (.inScope c::k)=exitTo id' k:=by simp[exitTo]
  exact⟨.exit id',a₁,w₁,hq,fun k' hk=>.head h0 qaY (harr.1 k' (by rw[hx];exact hk)),
   fun hr' hk=>let ⟨k₁,h1,h2⟩:=harr.2 hr' (by rw[hx];exact hk);⟨k₁,h1,.head h0 qaY h2⟩⟩
 | goto l=>exact hq.elim
 | ret=>exact⟨_,a₁,w₁,hq,.of_steps (.one h0 qaY) harr⟩
 | panic ch=>exact⟨_,a₁,w₁,hq,.of_steps (.one h0 qaY) harr⟩
 | outgrown=>exact⟨_,a₁,w₁,hq,.of_steps (.one h0 qaY) harr⟩
end
def quN(P:Program)(T:Tys)(ops:Array Oper)(rt:RT):Prop:=
 ∀ {σ:Type} (cx:Cx σ),qfc P cx -> ∀ (r:Option Nat) (m:List Nat) (L:Loc) (F:Nat->Nat) (e:Env) (h:Heap) (s:σ) (a:Act) (w:World) (K:Env->Heap->Prop),
  Good cx r m L F ⟨e,h,s⟩ a w->(∀ o∈ops.toList,∀ d,o.dst=some d->d<a.tmps.size)->qlj rt.made e h (fun e h=>wpD P T rt.made ops.toList (ops.toList.zip rt.ots) [] e h K) ->
  ∀ id,(Code.region id ops true).wpIn (fr r) 0 P (qrg cx r m F w a.tmps.size fun e h s'=>K e h/\s'=s) a w
def zS(P:Program)(T:Tys)(ft:FT):Code->Prop
 | .region id ops draw=>draw=true -> ∀ rt,get ft.tb id=some rt->quN P T ops rt
 | .seq a b=>zS P T ft a/\zS P T ft b
 | .cond _ a b=>zS P T ft a/\zS P T ft b
 | .block _ a=>zS P T ft a
 | .loop a=>zS P T ft a
 | .scope a=>zS P T ft a
 | .rangeFunc _ _ a b=>zS P T ft a/\zS P T ft b
 | _=>True
theorem jZ{α:Type}(l:List Nat)(t:Tab α):qaF (qM l t) t:=by
 induction t with
 | nil=>exact fun _ _ h=>h
 | cons kv r ih=>
  obtain⟨k,v⟩:=kv;intro s u hu;simp only[qM]at hu;split at hu
  ·simp only[get]at hu ⊢
   split at hu
   ·exact hu
   ·exact ih s u hu
  ·rename_i hk
   have key:∀ (t:Tab α) (s:Nat) (u:α),get (qM l t) s=some u->inL l s=true:=by
    intro t
    induction t with
    | nil=>intro s u h;cases h
    | cons kv r ih=>
     obtain⟨k,v⟩:=kv;intro s u h;simp only[qM]at h;split at h
     ·rename_i hk
      simp only[get]at h;split at h
      ·rename_i he;have:=Nat.eq_of_beq_eq_true he;subst this;exact hk
      ·exact ih s u h
     ·exact ih s u h
   have hs:=key r s u hu;simp only[get];split
   ·rename_i he
    have:=Nat.eq_of_beq_eq_true he;subst this;rw[hs]at hk;cases hk
   ·exact ih s u hu
section
variable {P : Program} {T : Tys} {ft : FT} {σ : Type} {Y : Hd σ}
theorem qfm{n:Nat}{id:Nat}{ops:Array Oper}{draw:Bool}(h:jm n (.region id ops draw)=true):∀ o∈ops.toList,∀ d,o.dst=some d->d<n:=by
 intro o ho d hd;have:=List.all_eq_true.1 (show ops.toList.all _=true from h) o ho;rw[hd]at this;simpa using this
theorem zM(hT:qU P T):∀ (c:Code),zS P T ft c -> ∀ (st:St σ) (K:AExit->St σ->Prop),wpA P T ft Y c st K->WPC P Y c st K
 | .skip,_,st,K,h=>fun cx hY r m L F a w hg hc=>wpIn_skip (.inl ⟨.normal,st,m,L,F,rfl,h,hg,Tr.refl F w,rfl⟩)
 | .exit i,_,st,K,h=>fun cx hY r m L F a w hg hc=>wpIn_exit (.inl ⟨.exit i,st,m,L,F,rfl,h,hg,Tr.refl F w,rfl⟩)
 | .ret,_,st,K,h=>fun cx hY r m L F a w hg hc=>wpIn_ret (.inl ⟨.ret,st,m,L,F,rfl,h,hg,Tr.refl F w,rfl⟩)
 | .label l,_,st,K,h=>fun cx hY r m L F a w hg hc=>wpIn_label (.inl ⟨.normal,st,m,L,F,rfl,h,hg,Tr.refl F w,rfl⟩)
 | .goto l,_,st,K,h=>False.elim h
 | .refuse y,_,st,K,h=>False.elim h
 | .loop c,_,st,K,h=>by obtain⟨h⟩:=(show LoopA P ft Y c st K from h);exact h
 | .rangeFunc g ps a b,_,st,K,h=>by obtain⟨h⟩:=(show RangeA P ft Y g ps a b st K from h);exact h
 | .scope c,hD,st,K,h=>fun cx hY r m L F a w hg hc=>by
  have:=zM hT c hD st K h cx hY r m L F a w hg hc;exact qpD (wpIn_mono this fun ex a' w' hq=>by
   rcases hq with⟨e',st',m',L',F',rfl,hk⟩|hp
   ·cases e'<;>exact .inl ⟨_,st',m',L',F',rfl,hk⟩
   ·have hp':=hp
    obtain⟨v,pe,ph,ps,m',L',F',rfl,_⟩:=hp;exact .inr hp')
 | .seq x y,hD,st,K,h=>fun cx hY r m L F a w hg hc=>by
  simp only[jm,Bool.and_eq_true]at hc;have:=zM hT x hD.1 st _ h cx hY r m L F a w hg hc.1;refine wpIn_seq (wpIn_mono this fun ex a' w' hq=>?_);rcases hq with⟨e',st',m',L',F',rfl,hk,hg',tr,hs⟩|hp
  case inr=>
   have hp':=hp;obtain⟨v,pe,ph,ps,m',L',F',rfl,_⟩:=hp;exact .inr hp'
  cases e' with
  | normal=>
   refine wpIn_mono (zM hT y hD.2 st' K hk cx hY r m' L' F' a' w' hg' (by rw[hs];exact hc.2)) fun ex a'' w'' hq=>?_;rcases hq with⟨e'',st'',m'',L'',F'',rfl,hk',hg'',tr',hs'⟩|hp
   ·exact .inl ⟨e'',st'',m'',L'',F'',rfl,hk',hg'',Tr.trans tr tr',hs'.trans hs⟩
   ·exact .inr (hp.trans tr hs)
  | exit i=>exact .inl ⟨.exit i,st',m',L',F',rfl,hk,hg',tr,hs⟩
  | ret=>exact .inl ⟨.ret,st',m',L',F',rfl,hk,hg',tr,hs⟩
 | .cond c x y,hD,st,K,h=>fun cx hY r m L F a w hg hc=>by
  simp only[jm,Bool.and_eq_true]at hc;obtain⟨e,hp,s⟩:=st;have h:qmZ (opnd e c) (wpA P T ft Y x ⟨e,hp,s⟩ K) (wpA P T ft Y y ⟨e,hp,s⟩ K):=h;unfold qmZ at h;split at h
  ·rename_i t ht
   have hev:a.eval c = .bool t:=hg.opnd ht;rcases qka h with⟨rfl,h⟩|⟨rfl,h⟩
   ·exact wpIn_cond hev (zM hT x hD.1 _ K h cx hY r m L F a w hg hc.1)
   ·exact wpIn_cond hev (zM hT y hD.2 _ K h cx hY r m L F a w hg hc.2)
  ·exact h.elim
 | .block i c,hD,st,K,h=>fun cx hY r m L F a w hg hc=>by
  have:=zM hT c hD st (qqO i K) h cx hY r m L F a w hg hc;refine wpIn_block (wpIn_mono this fun ex a' w' hq=>?_);rcases hq with⟨e',st',m',L',F',rfl,hk,hrest⟩|hp
  case inr=>
   have hp':=hp;obtain⟨v,pe,ph,ps,m',L',F',rfl,_⟩:=hp;exact .inr hp'
  cases e' with
  | normal=>exact .inl ⟨.normal,st',m',L',F',rfl,hk,hrest⟩
  | ret=>exact .inl ⟨.ret,st',m',L',F',rfl,hk,hrest⟩
  | exit j=>
   simp only[AExit.conc,Exit.inBlock];simp only[qqO]at hk;split at hk
   ·rename_i hij
    rw[if_pos (Nat.eq_of_beq_eq_true hij)];exact .inl ⟨.normal,st',m',L',F',rfl,hk,hrest⟩
   ·rename_i hij
    rw[if_neg (by rintro rfl;simp at hij)];exact .inl ⟨.exit j,st',m',L',F',rfl,hk,hrest⟩
 | .region id ops draw,hD,st,K,h=>fun cx hY r m L F a w hg hc=>by
  obtain⟨e,hp,s⟩:=st;have fin:∀ {ex:Exit} {a':Act} {w':World} {e':Env} {h':Heap} {s':σ} {L':Loc} {F':Nat->Nat},ex = .normal->jX (qM ft.ks e') (fun e=>K .normal ⟨e,h',s'⟩)->Good cx r m L' F' ⟨e',h',s'⟩ a' w'->Tr F w F' w'->a'.tmps.size=a.tmps.size ->
    (∃ (e':AExit) (st':St σ) (m':List Nat) (L':Loc) (F':Nat->Nat),ex=e'.conc/\K e' st'/\Good cx r m' L' F' st' a' w'/\Tr F w F' w'/\a'.tmps.size=a.tmps.size)\/PanicP Y cx r F w a.tmps.size ex a' w':=by
   intro ex a' w' e' h' s' L' F' hex hk hg' tr hs;rw[qap]at hk;exact .inl ⟨.normal,_,m,L',F',hex,hk,hg'.sub (jZ ft.ks e') (fun _ _ h=>h),tr,hs⟩
  cases draw with
  | false=>
   have h:qmW P T Y ops.toList ops.toList e hp s (fun e h s=>jX (qM ft.ks e) fun e=>K .normal ⟨e,h,s⟩):=h;refine wpIn_mono (wpIn_region (id:=id) (Q:=qfl Y cx r m F w a.tmps.size (fun e h s=>jX (qM ft.ks e) fun e=>K .normal ⟨e,h,s⟩)) ?_) fun ex a' w' hq=>?_
   ·have:=qeL hT hY ops.toList 0 (fun j=>by simp) hg rfl (qfm hc) (Tr.refl F w) h
    rwa [<- List.range_eq_range',Array.length_toList]at this
   ·rcases hq with⟨e',h',s',L',F',hex,hk,hg',tr,hs⟩|hp
    ·exact fin hex hk hg' tr hs
    ·exact .inr hp
  | true=>
   have h:(match get ft.tb id with
    | some ⟨made,ots⟩=>qlj made e hp fun e h=>wpD P T made ops.toList (ops.toList.zip ots) [] e h fun e h=>jX (qM ft.ks e) fun e=>K .normal ⟨e,h,s⟩
    | none=>RegionA P ft Y id ops ⟨e,hp,s⟩ K):=h
   split at h
   ·rename_i made ots hrt
    have hdr:=hD rfl ⟨made,ots⟩ hrt cx hY.laid r m L F e hp s a w _ hg (qfm hc) h;refine wpIn_mono (hdr id) fun ex a' w' hq=>?_;obtain⟨e',h',s',L',F',hex,⟨hk,rfl⟩,hg',tr,hs⟩:=hq;exact fin hex hk hg' tr hs
   ·obtain⟨h⟩:=h
    exact h cx hY r m L F a w hg hc
end
@[ext] structure Fs where
 env:Nat->Option V
 heap:Nat->Option Obj
def appF(f:Fs):Wr->Fs
 | .set s v=>⟨fun x=>if x=s then some v else f.env x,f.heap⟩
 | .obj i o=>⟨f.env,fun x=>if x=i then some o else f.heap x⟩
 | .new i o=>⟨f.env,fun x=>if x=i then some o else f.heap x⟩
 | .newq i o=>⟨f.env,fun x=>if x=i then some o else f.heap x⟩
 | .del i=>⟨f.env,fun x=>if x=i then none else f.heap x⟩
def appFs(f:Fs):List Wr->Fs
 | []=>f
 | w::r=>appFs (appF f w) r
def qaS{σ:Type}(st:St σ):Fs:=⟨get st.env,get st.heap⟩
def qgd:List Wr->List Nat
 | []=>[]
 | .set s _::r=>s::qgd r
 | _::r=>qgd r
theorem qbr:∀ {l:List Nat} {n:Nat},inL l n=true↔n∈l
 | [],n=>by simp[inL]
 | k::r,n=>by
  simp only[inL,List.mem_cons]
  cases h:Nat.beq k n with
  | true=>simp[Nat.eq_of_beq_eq_true h]
  | false=>
   have:n≠k:=by rintro rfl;simp at h
   simp[this,qbr (l:=r)]
theorem qaK:∀ {l m:List Nat},disj l m=true -> ∀ x∈l,x∉m
 | [],m,_,x,hx=>by cases hx
 | k::r,m,h,x,hx=>by
  simp only[disj]at h;split at h
  ·cases h
  rename_i hk;rcases List.mem_cons.1 hx with rfl|hx
  ·intro hm;rw[qbr.2 hm]at hk;cases hk
  ·exact qaK h x hx
theorem qlC:∀ {l m:List Nat},qxt l m=true -> ∀ x∈l,x∈m
 | [],m,_,x,hx=>by cases hx
 | k::r,m,h,x,hx=>by
  simp only[qxt]at h;split at h;case h_2=>cases h
  rename_i hk;rcases List.mem_cons.1 hx with rfl|hx
  ·exact qbr.1 hk
  ·exact qlC h x hx
theorem qbj:∀ {ws:List Wr} (f:Fs) {x:Nat},x∉qgd ws->(appFs f ws).env x=f.env x
 | [],_,_,_=>rfl
 | w::r,f,x,h=>by
  rw[appFs]
  cases w with
  | set s v=>
   simp only[qgd,List.mem_cons,not_or]at h;rw[qbj _ h.2];simp[appF,h.1]
  | _=>rw[qbj (ws:=r) _ h];rfl
theorem qaz:∀ {ws:List Wr} (f:Fs) {x:Nat},x∉jj ws->(appFs f ws).heap x=f.heap x
 | [],_,_,_=>rfl
 | w::r,f,x,h=>by
  rw[appFs]
  cases w with
  | set s v=>rw[qaz (ws:=r) _ h];rfl
  | _=>
   simp only[jj,List.mem_cons,not_or]at h;rw[qaz _ h.2];simp[appF,h.1]
theorem qbR:∀ {ws:List Wr} {f g:Fs} {x:Nat},f.env x=g.env x->(appFs f ws).env x=(appFs g ws).env x
 | [],_,_,_,h=>h
 | w::r,f,g,x,h=>by
  rw[appFs,appFs];apply qbR;cases w<;>simp[appF,h]
theorem qbs:∀ {ws:List Wr} {f g:Fs} {x:Nat},f.heap x=g.heap x->(appFs f ws).heap x=(appFs g ws).heap x
 | [],_,_,_,h=>h
 | w::r,f,g,x,h=>by
  rw[appFs,appFs];apply qbs;cases w<;>simp[appF,h]
theorem qpE{u v:List Wr}(f:Fs)(h1:∀ x∈qgd u,x∉qgd v)(h2:∀ x∈jj u,x∉jj v):appFs (appFs f u) v=appFs (appFs f v) u:=by
 ext1
 ·funext x
  by_cases hx:x∈qgd u
  ·rw[qbj _ (h1 x hx)]
   exact(qbR (qbj f (h1 x hx))).symm
  ·rw[qbj (ws:=u) _ hx]
   exact qbR (qbj f hx)
 ·funext x
  by_cases hx:x∈jj u
  ·rw[qaz _ (h2 x hx)]
   exact(qbs (qaz f (h2 x hx))).symm
  ·rw[qaz (ws:=u) _ hx]
   exact qbs (qaz f hx)
theorem qot{σ:Type}:∀ (ws:List Wr) (st:St σ),qaS (qx st (qmY ws))=appFs (qaS st) ws
 | [],st=>rfl
 | w::r,st=>by
  have key:∀ w':Wr,qaS (zf st w')=appF (qaS st) w->qaS (qx st (w'::qmY r))=appFs (qaS st) (w::r):=by
   intro w' h;rw[qx,qot r,appFs,h]
  cases w with
  | set s v=>exact key _ (by simp only[qaS,zf,appF];congr 1;funext x;rw[jq])
  | obj i o=>exact key _ (by simp only[qaS,zf,appF];congr 1;funext x;rw[jq])
  | new i o=>exact key (.newq i o) (by simp only[qaS,zf,appF];congr 1;funext x;rw[qI])
  | newq i o=>exact key _ (by simp only[qaS,zf,appF];congr 1;funext x;rw[qI])
  | del i=>exact key _ (by simp only[qaS,zf,appF];congr 1;funext x;rw[zZ])
structure Unn(f:Fs)(id:Nat):Prop where
 none:f.heap id=none
 env:∀ s v,f.env s=some v->¬ qbz v id
 heap:∀ i o,f.heap i=some o->¬ qdK o id
mutual
theorem qkl(id:Nat):∀ (v:V),¬ qbz v id->mapId (qz id) v=v
 | .d _,_=>rfl
 | .agg cs,h=>by simp only[mapId];rw[qdi id cs h]
 | .tup cs,h=>by simp only[mapId];rw[qdi id cs h]
 | .clo _ cs,h=>by simp only[mapId];rw[qdi id cs h]
 | .ptr i off,h=>by
  have hi:Nat.beq i id=false:=by rw[Bool.eq_false_iff];intro e;exact h (Nat.eq_of_beq_eq_true e)
  simp only[mapId,qz,qdE,hi]
 | .ep i sz j off,h=>by
  have hi:Nat.beq i id=false:=by rw[Bool.eq_false_iff];intro e;exact h (Nat.eq_of_beq_eq_true e)
  simp only[mapId,qz,qdE,hi]
 | .sl i sz off len,h=>by
  have hi:Nat.beq i id=false:=by rw[Bool.eq_false_iff];intro e;exact h (Nat.eq_of_beq_eq_true e)
  simp only[mapId,qz,qdE,hi]
 | .mp i,h=>by
  have hi:Nat.beq i id=false:=by rw[Bool.eq_false_iff];intro e;exact h (Nat.eq_of_beq_eq_true e)
  simp only[mapId,qz,qdE,hi]
 | .it i,h=>by
  have hi:Nat.beq i id=false:=by rw[Bool.eq_false_iff];intro e;exact h (Nat.eq_of_beq_eq_true e)
  simp only[mapId,qz,qdE,hi]
 | .yld,_=>rfl
 | .unk,_=>rfl
theorem qdi(id:Nat):∀ (vs:List V),¬ zc vs id->zH (qz id) vs=vs
 | [],_=>rfl
 | v::r,h=>by
  simp only[zc,not_or]at h;simp only[zH];rw[qkl id v h.1,qdi id r h.2]
end
theorem qlD(id:Nat):∀ (es:List (List V)),¬ zc es.flatten id->qr (qz id) es=es
 | [],_=>rfl
 | e::r,h=>by
  simp only[List.flatten_cons,qey,not_or]at h;simp only[qr];rw[qdi id e h.1,qlD id r h.2]
theorem qou(id:Nat)(o:Obj)(h:¬ qdK o id):Obj.mapId (qz id) o=o:=by
 cases o with
 | box c=>cases c with
  | dd l=>rfl
  | vv l=>simp only[Obj.mapId];rw[qdi id l h]
 | arr sz es=>cases es with
  | dd l=>rfl
  | vv l=>simp only[Obj.mapId];rw[qlD id l h]
 | map kvs=>rfl
 | iter s n=>rfl
 | buf t s=>rfl
 | tb t l=>simp only[Obj.mapId];rw[qdi id l h]
 | mit v n l u=>simp only[Obj.mapId];rw[qkl id v h]
mutual
theorem qaZ(i:Nat):∀ (v:V),qbz v i->i∈zq v
 | .d _,h=>h.elim
 | .agg cs,h=>by simpa[zq]using jy i cs h
 | .tup cs,h=>by simpa[zq]using jy i cs h
 | .clo _ cs,h=>by simpa[zq]using jy i cs h
 | .ptr j off,h=>by have:j=i:=h;simp[zq,this]
 | .ep j sz k off,h=>by have:j=i:=h;simp[zq,this]
 | .sl j sz off len,h=>by have:j=i:=h;simp[zq,this]
 | .mp j,h=>by have:j=i:=h;simp[zq,this]
 | .it j,h=>by have:j=i:=h;simp[zq,this]
 | .yld,h=>h.elim
 | .unk,h=>h.elim
theorem jy(i:Nat):∀ (vs:List V),zc vs i->i∈zh vs
 | [],h=>h.elim
 | v::r,h=>by
  simp only[zh,List.mem_append];exact h.imp (qaZ i v) (jy i r)
end
theorem jz(i:Nat)(o:Obj)(h:qdK o i):i∈qaH o:=by
 cases o with
 | box c=>cases c with
  | dd l=>exact(jB l i h).elim
  | vv l=>exact jy i l h
 | arr sz es=>cases es with
  | dd l=>
   exfalso;have h:zc (ze l).flatten i:=h;rw[zW]at h;exact jB _ i h
  | vv l=>exact jy i l.flatten h
 | map kvs=>exact h.elim
 | iter s n=>exact h.elim
 | buf t s=>exact h.elim
 | tb t l=>exact jy i l h
 | mit v n l u=>exact qaZ i v h
theorem Unn.appF{f:Fs}{id:Nat}{w:Wr}(h:Unn f id)(h1:id∉zE [w])(h2:id∉jj [w]):Unn (appF f w) id:=by
 have put:∀ (i:Nat) (o:Obj),id∉qaH o->id≠i->Unn ⟨f.env,fun x=>if x=i then some o else f.heap x⟩ id:=by
  intro i o ho hi;refine⟨by simp[hi,h.none],h.env,fun j o' hj=>?_⟩;simp only at hj;split at hj
  ·cases hj;exact fun hn=>ho (jz id _ hn)
  ·exact h.heap j o' hj
 cases w with
 | set s v=>
  refine⟨h.none,fun t u hu=>?_,h.heap⟩;simp only[PX.appF]at hu;split at hu
  ·cases hu;exact fun hn=>h1 (by simp[zE,qaZ id _ hn])
  ·exact h.env t u hu
 | obj i o=>exact put i o (by simpa[zE]using h1) (by simpa[jj]using h2)
 | new i o=>exact put i o (by simpa[zE]using h1) (by simpa[jj]using h2)
 | newq i o=>exact put i o (by simpa[zE]using h1) (by simpa[jj]using h2)
 | del i=>
  refine⟨?_,h.env,fun j o' hj=>?_⟩
  ·simp only[PX.appF];split
   ·rfl
   ·exact h.none
  ·simp only[PX.appF]at hj
   split at hj
   ·cases hj
   ·exact h.heap j o' hj
theorem qnh(w:Wr)(r:List Wr)(x:Nat):x∈zE (w::r)↔x∈zE [w]\/x∈zE r:=by cases w<;>simp[zE]
theorem qpF(w:Wr)(r:List Wr)(x:Nat):x∈jj (w::r)↔x∈jj [w]\/x∈jj r:=by cases w<;>simp[jj]
theorem Unn.appFs{id:Nat}:∀ {ws:List Wr} {f:Fs},Unn f id->id∉zE ws->id∉jj ws->Unn (appFs f ws) id
 | [],f,h,_,_=>h
 | w::r,f,h,h1,h2=>by
  rw[qnh,not_or]at h1;rw[qpF,not_or]at h2;exact Unn.appFs (ws:=r) (f:=PX.appF f w) (h.appF h1.1 h2.1) h1.2 h2.2
theorem qhE{w:Wr}{r:List Wr}(h:qaw (w::r)=true):qaw r=true/\(∀ x∈zp r,x∉zE [w])/\(∀ x∈zp r,x∈jj [w] -> ∃ i,w = .del i)/\(∀ i o,w ≠ .newq i o):=by
 have key:∀ {l:List Nat},(match disj (zp r) l with
   | true=>qaw r
   | false=>false)=true->qaw r=true /\ ∀ x∈zp r,x∉l:=by
  intro l h;split at h
  ·rename_i hd;exact⟨h,qaK hd⟩
  ·cases h
 cases w with
 | set s v=>
  obtain⟨h1,h2⟩:=key h;exact⟨h1,fun x hx=>by simpa[zE]using h2 x hx,fun x hx hm=>by simp[jj]at hm,fun i o e=>by cases e⟩
 | obj i o=>
  obtain⟨h1,h2⟩:=key h;exact⟨h1,fun x hx=>by have:=h2 x hx;simp at this;simpa[zE]using this.2,fun x hx hm=>by have:=h2 x hx;simp[jj]at hm;simp[hm]at this,fun i o e=>by cases e⟩
 | new i o=>
  obtain⟨h1,h2⟩:=key h;exact⟨h1,fun x hx=>by have:=h2 x hx;simp at this;simpa[zE]using this.2,fun x hx hm=>by have:=h2 x hx;simp[jj]at hm;simp[hm]at this,fun i o e=>by cases e⟩
 | newq i o=>cases h
 | del i=>exact⟨h,fun x hx=>by simp[zE],fun x hx hm=>⟨i,rfl⟩,fun i o e=>by cases e⟩
theorem qri{σ:Type}:∀ (ws:List Wr) (st:St σ),qaw ws=true->(∀ id∈zp ws,Unn (qaS st) id)->qaS (qx st ws)=appFs (qaS st) ws
 | [],st,_,_=>rfl
 | w::r,st,hok,hu=>by
  obtain⟨h1,h2,h3,h4⟩:=qhE hok;have hu':∀ id∈zp r,Unn (qaS st) id:=fun id hid=>hu id (by cases w<;>simp[zp,hid]);have key:qaS (zf st w)=appF (qaS st) w:=by
   cases w with
   | set s v=>simp only[qaS,zf,appF];congr 1;funext x;rw[jq]
   | obj i o=>simp only[qaS,zf,appF];congr 1;funext x;rw[jq]
   | new i o=>
    have hi:Unn (qaS st) i:=hu i (by simp[zp]);simp only[qaS,zf,appF]
    congr 1
    ·funext x
     rw[qQ]
     cases hx:get st.env x with
     | none=>rfl
     | some v=>simp only[Option.map_some];rw[qkl i v (hi.env x v hx)]
    ·funext x
     rw[qI,qQ,zZ];split
     ·rfl
     ·cases hx:get st.heap x with
      | none=>rfl
      | some o'=>simp only[Option.map_some];rw[qou i o' (hi.heap x o' hx)]
   | newq i o=>exact absurd rfl (h4 i o)
   | del i=>simp only[qaS,zf,appF];congr 1;funext x;rw[zZ]
  rw[qx,appFs,<- key];refine qri r _ h1 fun id hid=>?_;rw[key];by_cases hm:id∈jj [w]
  ·obtain⟨i,rfl⟩:=h3 id hid hm
   have hh:=hu' id hid;refine⟨?_,hh.env,fun j o' hj=>?_⟩
   ·simp only[PX.appF];split
    ·rfl
    ·exact hh.none
   ·simp only[PX.appF]at hj
    split at hj
    ·cases hj
    ·exact hh.heap j o' hj
  ·exact(hu' id hid).appF (h2 id hid) hm
structure Rec where
 idx:Nat
 e:Env
 h:Heap
 os:List Nat
 ws:List Wr
 prs:List Nat
def Rec.oo(r:Rec):OO:=⟨r.os,jj r.ws,zp r.ws,zE r.ws⟩
def qxQ(r:Rec)(f:Fs):Prop:=(∀ s v,get r.e s=some v->f.env s=some v)/\(∀ s o,get r.h s=some o->f.heap s=some o)
def RunR:List Rec->Fs->Fs->Prop
 | [],f,f'=>f'=f
 | r::l,f,f'=>qxQ r f/\RunR l (appFs f r.ws) f'
structure Apart1(a b:Rec):Prop where
 env:∀ x∈qgd a.ws,get b.e x=none
 heap:∀ x∈jj a.ws,get b.h x=none
 sets:∀ x∈qgd a.ws,x∉qgd b.ws
 objs:∀ x∈jj a.ws,x∉jj b.ws
 news:∀ x∈zp a.ws,x∉zE b.ws
structure Free(a b:Rec):Prop where
 l:Apart1 a b
 r:Apart1 b a
theorem Apart1.sub{a b:Rec}(h:Apart1 a b)(f:Fs):qxQ b (appFs f a.ws)↔qxQ b f:=by
 constructor
 ·rintro ⟨h1,h2⟩
  refine⟨fun s v hs=>?_,fun s o hs=>?_⟩
  ·rw[<- h1 s v hs];exact(qbj f fun hm=>by rw[h.env s hm]at hs;cases hs).symm
  ·rw[<- h2 s o hs];exact(qaz f fun hm=>by rw[h.heap s hm]at hs;cases hs).symm
 ·rintro ⟨h1,h2⟩
  refine⟨fun s v hs=>?_,fun s o hs=>?_⟩
  ·rw[qbj f fun hm=>by rw[h.env s hm]at hs;cases hs];exact h1 s v hs
  ·rw[qaz f fun hm=>by rw[h.heap s hm]at hs;cases hs];exact h2 s o hs
theorem RunR.swap{a b:Rec}{l:List Rec}{f f':Fs}(hf:Free a b)(h:RunR (a::b::l) f f'):RunR (b::a::l) f f':=by
 obtain⟨h1,h2,h3⟩:=h;refine⟨(hf.l.sub f).1 h2,(hf.r.sub f).2 h1,?_⟩;rw[qpE f hf.r.sets hf.r.objs];exact h3
theorem RunR.front{b:Rec}{l2:List Rec}{f':Fs}:∀ {l1:List Rec} {f:Fs},(∀ a∈l1,Free a b)->RunR (l1++b::l2) f f'->RunR (b::(l1++l2)) f f'
 | [],_,_,h=>h
 | a::l1,f,hf,h=>by
  obtain⟨h1,h2⟩:=h;have:=RunR.front (l1:=l1) (fun i hi=>hf i (List.mem_cons_of_mem _ hi)) h2;exact RunR.swap (hf a (List.mem_cons_self ..)) ⟨h1,this⟩
def qlE(P:Program)(ops:Array Oper)(q:Rec):Prop:=
 ∀ {σ:Type} (cx:Cx σ),qfc P cx -> ∀ (r:Option Nat) (m:List Nat) (L:Loc) (F:Nat->Nat) (st:St σ) (a:Act) (w:World),qaF q.e st.env->qaF q.h st.heap->Good cx r m L F st a w ->
  (∀ o,ops[q.idx]?=some o -> ∀ k,o.dst=some k->k<a.tmps.size) -> ∀ (next:Act->World->Prop) (Q:Exit->Act->World->Prop),
  (∀ a' L' F' w',a'.tmps.size=a.tmps.size->Good cx r m L' F' (qx st q.ws) a' w'->Tr F w F' w'->next a' w')->wpOpIn (fr r) 0 P ops Q q.idx next a w
structure Pr(a b:Rec):Prop where
 lt:a.idx<b.idx
 free:a.idx∈b.prs->Free a b
 names:∀ x∈zp b.ws,x∉zE a.ws
 objs:∀ x∈zp b.ws,x∉jj a.ws
theorem qbK:∀ {ws:List Wr} {x:Nat},x∈zp ws->x∈jj ws
 | [],_,h=>h
 | w::r,x,h=>by
  cases w<;>simp only[zp,jj,List.mem_cons]at h ⊢
  ·exact qbK h
  ·exact .inr (qbK h)
  ·exact h.imp id qbK
  ·exact .inr (qbK h)
  ·exact .inr (qbK h)
def qhF:Nat->List Oper->Bool
 | _,[]=>true
 | i,o::r=>o.after.toList.all (fun e=>!Region.binds .any e||Nat.blt e.on i)&&qhF (i+1) r
def quO(ots:List OT)(o:Oper)(i:Nat):Bool:=
 o.after.toList.any fun e=>Region.binds .any e&&(Nat.beq e.on i||(Nat.blt i e.on&&(match ots[e.on]? with
  | some u=>!inL u.prs i
  | none=>false)))
def qhG(ots:List OT):Nat->List Oper->List OT->Bool
 | _,[],_=>true
 | j,o::r,t::tr=>(List.range j).all (fun i=>inL t.prs i||quO ots o i)&&qhG ots (j+1) r tr
 | _,_::_,[]=>false
def qkm(d:Option Nat)(ts:List Nat):Bool:=
 match d with
 | none=>true
 | some d=>!inL ts d
def qwy(d d':Option Nat):Bool:=
 match d,d' with
 | some d,some d'=>!Nat.beq d d'
 | _,_=>true
def qlF(ops:List Oper)(ots:List OT)(o:Oper)(t:OT):List Nat->Bool
 | []=>true
 | i::r=>(match ops[i]?,ots[i]? with
  | some p,some u=>qkm p.dst t.ts&&qkm o.dst u.ts&&qwy p.dst o.dst
  | _,_=>false)&&qlF ops ots o t r
def qhH(ops:List Oper)(ots:List OT):List Oper->List OT->Bool
 | [],_=>true
 | o::r,t::tr=>qlF ops ots o t t.prs&&qhH ops ots r tr
 | _::_,[]=>false
def qlG(ops:List Oper)(rt:RT):Bool:=
 Nat.beq ops.length rt.ots.length&&qhF 0 ops&&qhG rt.ots 0 ops rt.ots&&qhH ops rt.ots ops rt.ots&&rt.made.all fun d=>Nat.blt d 500000
theorem qdj:∀ {l:List Oper} {i:Nat},qhF i l=true -> ∀ (j:Nat) (o:Oper),l[j]?=some o -> ∀ e∈o.after,Region.binds .any e=true->e.on<i+j
 | [],_,_,j,o,ho,_,_,_=>by simp at ho
 | x::l,i,h,j,o,ho,e,he,hb=>by
  simp only[qhF,Bool.and_eq_true,List.all_eq_true]at h
  cases j with
  | zero=>
   simp only[List.getElem?_cons_zero,Option.some.injEq]at ho;subst ho;have:=h.1 e (by simpa using he);simp only[hb,Bool.not_true,Bool.false_or]at this;exact Nat.le_of_ble_eq_true this
  | succ j=>
   have:=qdj h.2 j o (by simpa using ho) e he hb;omega
theorem qgB{ots:List OT}:∀ {l:List Oper} {tr:List OT} {k:Nat},qhG ots k l tr=true -> ∀ (j:Nat) (o:Oper) (t:OT),l[j]?=some o->tr[j]?=some t -> ∀ i,i<k+j->i∈t.prs \/
  ∃ e∈o.after,Region.binds .any e=true/\(e.on=i\/i<e.on /\ ∃ u,ots[e.on]?=some u/\i∉u.prs)
 | [],_,_,_,j,o,t,ho,_,_,_=>by simp at ho
 | _::_,[],_,h,j,o,t,_,ht,_,_=>by simp at ht
 | x::l,y::tr,k,h,j,o,t,ho,ht,i,hi=>by
  simp only[qhG,Bool.and_eq_true,List.all_eq_true]at h
  cases j with
  | zero=>
   simp only[List.getElem?_cons_zero,Option.some.injEq]at ho ht;subst ho;subst ht;have:=h.1 i (by simpa using hi);rw[Bool.or_eq_true]at this;rcases this with h1|h1
   ·exact .inl (qbr.1 h1)
   ·right
    simp only[quO,List.any_eq_true,Bool.and_eq_true,Bool.or_eq_true]at h1;obtain⟨e,he,hb,hor⟩:=h1;refine⟨e,by simpa using he,hb,?_⟩;rcases hor with h2|⟨h2,h3⟩
    ·exact .inl (Nat.eq_of_beq_eq_true h2)
    ·right
     refine⟨Nat.le_of_ble_eq_true h2,?_⟩;split at h3
     ·rename_i u hu
      refine⟨u,hu,fun hm=>?_⟩;rw[qbr.2 hm]at h3;cases h3
     ·cases h3
  | succ j=>exact qgB h.2 j o t (by simpa using ho) (by simpa using ht) i (by omega)
theorem qhI{ops:List Oper}{ots:List OT}{o:Oper}{t:OT}:∀ {l:List Nat},qlF ops ots o t l=true -> ∀ i∈l,∃ p u,ops[i]?=some p/\ots[i]?=some u/\(∀ d,p.dst=some d->d∉t.ts)/\(∀ d,o.dst=some d->d∉u.ts)/\(∀ d,p.dst=some d->o.dst≠some d)
 | [],_,i,hi=>by cases hi
 | k::r,h,i,hi=>by
  simp only[qlF,Bool.and_eq_true]at h;rcases List.mem_cons.1 hi with rfl|hi
  ·have h1:=h.1
   split at h1;case h_2=>cases h1
   rename_i p u hp hu;simp only[Bool.and_eq_true]at h1;obtain⟨⟨h2,h3⟩,h4⟩:=h1;refine⟨p,u,hp,hu,fun d hd hm=>?_,fun d hd hm=>?_,fun d hd he=>?_⟩
   ·rw[hd]at h2;simp[qkm,qbr.2 hm]at h2
   ·rw[hd]at h3;simp[qkm,qbr.2 hm]at h3
   ·rw[hd,he]at h4;simp[qwy]at h4
  ·exact qhI h.2 i hi
theorem qgC{ops:List Oper}{ots:List OT}:∀ {l:List Oper} {tr:List OT},qhH ops ots l tr=true -> ∀ (j:Nat) (o:Oper) (t:OT),l[j]?=some o->tr[j]?=some t->qlF ops ots o t t.prs=true
 | [],_,_,j,o,t,ho,_=>by simp at ho
 | _::_,[],h,j,o,t,_,ht=>by simp at ht
 | x::l,y::tr,h,j,o,t,ho,ht=>by
  simp only[qhH,Bool.and_eq_true]at h
  cases j with
  | zero=>
   simp only[List.getElem?_cons_zero,Option.some.injEq]at ho ht;subst ho;subst ht;exact h.1
  | succ j=>exact qgC h.2 j o t (by simpa using ho) (by simpa using ht)
theorem qkn{listed:Array Bool}{i:Nat}(hi:i<listed.size)(h:listed.getD i true≠false):listed.getD i false=true:=by
 simp only[Array.getD_eq_getD_getElem?]at h ⊢;rw[Array.getElem?_eq_getElem hi]at h ⊢;simpa using h
theorem qlH{listed:Array Bool}{i:Nat}(h:listed.getD i false=true):listed.getD i true=true:=by
 simp only[Array.getD_eq_getD_getElem?]at h ⊢
 cases hi:listed[i]? with
 | none=>rw[hi]at h;cases h
 | some b=>rw[hi]at h;simpa using h
structure Todo(ops:Array Oper)(l:List Rec)(listed:Array Bool):Prop where
 mem:∀ i,(∃ q∈l,q.idx=i)↔listed.getD i true=false
 size:listed.size=ops.size
 closed:∀ (j:Nat) (o:Oper),listed.getD j false=true->ops[j]?=some o -> ∀ e∈o.after,Region.binds .any e=true->listed.getD e.on false=true
structure Rs(P:Program)(ops:Array Oper)(ots:List OT)(l:List Rec):Prop where
 pw:l.Pairwise Pr
 snd:∀ q∈l,qlE P ops q
 news:∀ q∈l,qaw q.ws=true
 prs:∀ q∈l,∃ t,ots[q.idx]?=some t/\q.prs=t.prs
theorem Todo.ahead{ops:Array Oper}{l:List Rec}{listed:Array Bool}(h:Todo ops l listed){ots:List OT}(hb:qhF 0 ops.toList=true)(hA:qhG ots 0 ops.toList ots=true)(hlen:ops.toList.length=ots.length) :
  ∀ (n j:Nat) (o:Oper) (t:OT),j<n->ops[j]?=some o->ots[j]?=some t->(∀ e∈o.after,Region.binds .any e=true->listed.getD e.on false=true) -> ∀ i,i<j->i∉t.prs->listed.getD i false=true
 | 0,_,_,_,hj,_,_,_,_,_,_=>by omega
 | n+1,j,o,t,hj,ho,ht,hl,i,hi,hn=>by
  rcases qgB hA j o t (by simpa using ho) ht i (by omega) with h1|⟨e,he,hbd,hor⟩
  ·exact absurd h1 hn
  have hlt:=qdj hb j o (by simpa using ho) e he hbd;rcases hor with rfl|⟨hlt',u,hu,hiu⟩
  ·exact hl e he hbd
  ·have hjs:j<ops.size:=(Array.getElem?_eq_some_iff.1 ho).1
   have hes:ops[e.on]?=some ops[e.on]:=Array.getElem?_eq_getElem (by omega);exact Todo.ahead h hb hA hlen n e.on _ u (by omega) hes hu (h.closed e.on _ (hl e he hbd) hes) i hlt' hiu
section
variable {P : Program} {σ : Type} {cx : Cx σ} {r : Option Nat} {m : List Nat}
theorem qrj(hld:qfc P cx){ops:Array Oper}{rt:RT}(hst:qlG ops.toList rt=true){Q:Exit->Act->World->Prop}{f':Fs}{s:σ}{n0:Nat}{F0:Nat->Nat}{w0:World}
  (hd:∀ o∈ops.toList,∀ d,o.dst=some d->d<n0)
  (hQ:∀ a w L F (st:St σ),qaS st=f'->st.s=s->Good cx r m L F st a w->Tr F0 w0 F w->a.tmps.size=n0->Q .normal a w) :
  ∀ (fuel:Nat) {l:List Rec} {listed:Array Bool} {st:St σ} {a:Act} {w:World} {L:Loc} {F:Nat->Nat},
  Rs P ops rt.ots l->Good cx r m L F st a w->st.s=s->Tr F0 w0 F w->a.tmps.size=n0->(∀ q∈l,∀ id∈zp q.ws,Unn (qaS st) id)->RunR l (qaS st) f'->l.length<=fuel->Todo ops l listed ->
  wpAnyIn (fr r) 0 P .any ops Q fuel listed a w:=by
 simp only[qlG,Bool.and_eq_true]at hst;obtain⟨⟨⟨⟨hlen,hback⟩,hahead⟩,hpairs⟩,hmade⟩:=hst;have hlen:=Nat.eq_of_beq_eq_true hlen;have hready:∀ {l:List Rec} {listed:Array Bool},l.Pairwise Pr->Todo ops l listed->Region.ready .any ops listed = []->l = []:=by
  intro l listed hp ht hr
  cases l with
  | nil=>rfl
  | cons q l=>
   exfalso;have hi:=(ht.mem q.idx).1 ⟨q,List.mem_cons_self ..,rfl⟩;have his:q.idx<ops.size:=by
    rcases Nat.lt_or_ge q.idx listed.size with h|h
    ·rw[<- ht.size];exact h
    ·simp[Array.getD_eq_getD_getElem?,Array.getElem?_eq_none h]at hi
   have hmem:q.idx∈Region.ready .any ops listed:=by
    rw[mem_ready];refine⟨hi,ops[q.idx],Array.getElem?_eq_getElem his,fun e he hb=>?_⟩;have hlt:=qdj hback q.idx ops[q.idx] (by simp) e he hb;refine qkn (by rw[ht.size];omega) fun hf=>?_;obtain⟨q',hq',he'⟩:=(ht.mem e.on).2 hf;rcases List.mem_cons.1 hq' with h|h
    ·subst h;omega
    ·have:=((List.pairwise_cons.1 hp).1 _ h).lt
     omega
   rw[hr]at hmem;cases hmem
 intro fuel
 induction fuel with
 | zero=>
  intro l listed st a w L F hrs hg hs tr hn hu hrun hle ht;have hl:l = []:=List.length_eq_zero_iff.1 (by omega);subst hl;have hrun:f'=qaS st:=hrun;refine⟨?_,hQ a w L F st hrun.symm hs hg tr hn⟩
  cases hr:Region.ready .any ops listed with
  | nil=>rfl
  | cons i _=>
   have:i∈Region.ready .any ops listed:=by rw[hr];exact List.mem_cons_self ..
   obtain⟨q,hq,_⟩:=(ht.mem i).2 (mem_ready.1 this).1;cases hq
 | succ fuel ih=>
  intro l listed st a w L F hrs hg hs tr hn hu hrun hle ht;refine⟨fun hr=>?_,fun j hj=>?_⟩
  ·have hl:=hready hrs.pw ht hr
   subst hl;have hrun:f'=qaS st:=hrun;exact hQ a w L F st hrun.symm hs hg tr hn
  ·obtain⟨hjl,oj,hoj,hedges⟩:=mem_ready.1 hj
   obtain⟨q,hq,rfl⟩:=(ht.mem j).2 hjl;obtain⟨l1,l2,rfl⟩:=List.append_of_mem hq;have hpw:=List.pairwise_append.1 hrs.pw;obtain⟨t,hqt,hqp⟩:=hrs.prs q hq;have hfree:∀ p∈l1,Free p q:=by
    intro p hp;have hpr:=hpw.2.2 p hp q (List.mem_cons_self ..);refine hpr.free (Classical.byContradiction fun hn'=>?_);rw[hqp]at hn';have:=ht.ahead hback hahead hlen (q.idx+1) q.idx oj t (by omega) hoj hqt hedges p.idx hpr.lt hn';have h3:=qlH this;rw[(ht.mem p.idx).1 ⟨p,List.mem_append_left _ hp,rfl⟩]at h3;cases h3
   obtain⟨hsub,hrest⟩:=RunR.front hfree hrun;have hns:=hrs.news q hq;have hreal:qaS (qx st q.ws)=appFs (qaS st) q.ws:=qri q.ws st hns (hu q hq);refine hrs.snd q hq cx hld r m L F st a w hsub.1 hsub.2 hg (fun o ho k hk=>?_) _ _ fun a' L' F' w' hsz hg' tr'=>?_
   ·rw[hn]
    exact hd o (by simpa using Array.mem_of_getElem? ho) k hk
   ·have hmem:∀ p,p∈l1++l2->p∈l1++q::l2:=fun p hp=>by
     rcases List.mem_append.1 hp with h|h
     ·exact List.mem_append_left _ h
     ·exact List.mem_append_right _ (List.mem_cons_of_mem _ h)
    have hne:∀ p∈l1++l2,p.idx≠q.idx:=by
     intro p hp;rcases List.mem_append.1 hp with h|h
     ·have:=(hpw.2.2 p h q (List.mem_cons_self ..)).lt;omega
     ·have:=((List.pairwise_cons.1 hpw.2.1).1 p h).lt;omega
    refine ih (l:=l1++l2) ⟨?_,fun p hp=>hrs.snd p (hmem p hp),fun p hp=>hrs.news p (hmem p hp),fun p hp=>hrs.prs p (hmem p hp)⟩ hg' ((jb _ _).trans hs) (Tr.trans tr tr') (hsz.trans hn) ?_ (by rw[hreal];exact hrest) (by simp at hle ⊢;omega) ⟨fun i=>?_,?_,?_⟩
    ·exact List.pairwise_append.2 ⟨hpw.1,(List.pairwise_cons.1 hpw.2.1).2,fun x hx y hy=>hpw.2.2 x hx y (List.mem_cons_of_mem _ hy)⟩
    ·intro p hp id hid
     rw[hreal];refine(hu p (hmem p hp) id hid).appFs ?_ ?_
     ·rcases List.mem_append.1 hp with h|h
      ·exact(hfree p h).l.news id hid
      ·exact((List.pairwise_cons.1 hpw.2.1).1 p h).names id hid
     ·rcases List.mem_append.1 hp with h|h
      ·exact(hfree p h).l.objs id (qbK hid)
      ·exact((List.pairwise_cons.1 hpw.2.1).1 p h).objs id hid
    ·by_cases hij:q.idx=i
     ·subst hij
      have hlt:q.idx<listed.size:=by rw[ht.size];exact(Array.getElem?_eq_some_iff.1 hoj).1
      constructor
      ·rintro ⟨p,hp,he⟩;exact absurd he (hne p hp)
      ·intro h;simp[hlt]at h
     ·rw[getD_set_ne true hij,<- ht.mem i]
      constructor
      ·rintro ⟨p,hp,he⟩;exact⟨p,hmem p hp,he⟩
      ·rintro ⟨p,hp,he⟩
       refine⟨p,?_,he⟩;rcases List.mem_append.1 hp with h|h
       ·exact List.mem_append_left _ h
       ·rcases List.mem_cons.1 h with rfl|h
        ·exact absurd he hij
        ·exact List.mem_append_right _ h
    ·rw[Array.size_setIfInBounds];exact ht.size
    ·intro k o' hk ho' e he hb
     by_cases hkj:q.idx=k
     ·subst hkj
      rw[hoj]at ho';cases ho';exact getD_set_true (hedges e he hb)
     ·rw[getD_set_ne false hkj]at hk
      exact getD_set_true (ht.closed k o' hk ho' e he hb)
end
end Go.PX
