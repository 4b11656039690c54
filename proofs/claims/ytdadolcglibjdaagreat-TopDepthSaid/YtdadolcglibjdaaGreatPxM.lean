import Derived.Test.YtdadolcglibjdaaGreatPxH
import Derived.Test.YtdadolcglibjdaaGreatPxL
import Derived.Test.YtdadolcglibjdaaGreatPxI
set_option linter.all false
set_option maxRecDepth 10000
namespace Go.PX
open Go.RowKit
theorem qN{ops:Array Oper}{a8:Array Bool}(xF:∀ (j:Nat) (o:Oper),a8.getD j false=true->ops[j]?=some o -> ∀ e∈o.after,Region.binds .any e=true->a8.getD e.on false=true){fF:List OT}(hb:sw 0 ops.toList=true)(hA:o7 fF 0 ops.toList fF=true)(hlen:ops.toList.length=fF.length) :
  ∀ (n j:Nat) (o:Oper) (t:OT),j<n->ops[j]?=some o->fF[j]?=some t->(∀ e∈o.after,Region.binds .any e=true->a8.getD e.on false=true) -> ∀ i,i<j->i∉t.iX->a8.getD i false=true
 | 0,_,_,_,hj,_,_,_,_,_,_=>by omega
 | n+1,j,o,t,hj,ho,ht,hl,i,hi,hn=>by
  rcases mR hA j o t (by simpa using ho) ht i (by omega) with h1|⟨e,he,GX,Jr⟩
  ·exact absurd h1 hn
  have dI:=gV hb j o (by simpa using ho) e he GX;rcases Jr with rfl|⟨EP,u,hu,ND⟩
  ·exact hl e he GX
  ·have NF:j<ops.size:=(Array.getElem?_eq_some_iff.1 ho).1
   have nC:ops[e.on]?=some ops[e.on]:=Array.getElem?_eq_getElem (by omega);exact qN xF hb hA hlen n e.on _ u (by omega) nC hu (xF e.on _ (hl e he GX) nC) i EP ND
structure Gc(ops:Array Oper)(b:Nat)(l:List Rec)(a8:Array Bool):Prop where
 mem:∀ i,((∃ q∈l,q.idx=i)\/(b<=i/\i<ops.size))↔a8.getD i true=false
 size:a8.size=ops.size
 closed:∀ (j:Nat) (o:Oper),a8.getD j false=true->ops[j]?=some o -> ∀ e∈o.after,Region.binds .any e=true->a8.getD e.on false=true
def JG(fF:List OT)(b:Nat):Bool:=(fF.drop b).all fun t=>t.iX.isEmpty
theorem xP{fF:List OT}{b:Nat}(h:JG fF b=true){j:Nat}{t:OT}(hj:b<=j)(ht:fF[j]?=some t):t.iX = []:=by
 have h1:=List.all_eq_true.1 h t (by
  refine List.mem_of_getElem? (i:=j-b) ?_;rw[List.getElem?_drop,show b+(j-b)=j by omega];exact ht)
 simpa using h1
section
variable {P : Program} {σ : Type} {cx : Cx σ} {r : Option Nat} {m : List Nat}
theorem FH(tN:rY P cx){ops:Array Oper}{rt:RT}(pz:kE ops.toList rt=true){b:Nat}(KR:b<=ops.size)(AP:JG rt.fF b=true){Q:Exit->Act->World->Prop}{f':Fs}{s:σ}{n0:Nat}{F0:Nat->Nat}{w0:World}{k:Nat}
  (hd:∀ o∈ops.toList,∀ d,o.dst=some d->d<n0)
  (Je:∀ a w L F (st:St σ) a8,cz st=f'->st.s=s->Good cx r m L F st a w->Tr F0 w0 F w->a.tmps.size=n0->Gc ops b [] a8->wpAnyIn (fr r) 0 P .any ops Q k a8 a w) :
  ∀ (n:Nat) {l:List Rec} {a8:Array Bool} {st:St σ} {a:Act} {w:World} {L:Loc} {F:Nat->Nat},l.length=n->(∀ q∈l,q.idx<b) ->
  Rs P ops rt.fF l->Good cx r m L F st a w->st.s=s->Tr F0 w0 F w->a.tmps.size=n0->(∀ q∈l,∀ id∈bw q.ws,p7 (cz st) id)->pk l (cz st) f'->Gc ops b l a8 ->
  wpAnyIn (fr r) 0 P .any ops Q (k+n) a8 a w:=by
 simp only[kE,Bool.and_eq_true]at pz;obtain⟨⟨⟨⟨hlen,lU⟩,nX⟩,mG⟩,td⟩:=pz;have hlen:=Nat.eq_of_beq_eq_true hlen;intro n
 induction n with
 | zero=>
  intro l a8 st a w L F nZ EO zl hg hs tr hn hu bt ht;have hl:l = []:=List.length_eq_zero_iff.1 nZ;subst hl;have bt:f'=cz st:=bt;exact Je a w L F st a8 bt.symm hs hg tr hn ht
 | succ n ih=>
  intro l a8 st a w L F nZ EO zl hg hs tr hn hu bt ht;have zf:∃ q l',l=q::l':=by
   cases l with
   | nil=>simp at nZ
   | cons q l'=>exact⟨q,l',rfl⟩
  refine⟨fun hr=>?_,fun j hj=>?_⟩
  ·exfalso
   obtain⟨q,l',rfl⟩:=zf;have XI:=EO q (List.mem_cons_self ..);have hi:=(ht.mem q.idx).1 (.inl ⟨q,List.mem_cons_self ..,rfl⟩);have gF:q.idx∈Region.ready .any ops a8:=by
    rw[mem_ready];refine⟨hi,ops[q.idx]'(by omega),Array.getElem?_eq_getElem (by omega),fun e he hb=>?_⟩;have dI:=gV lU q.idx (ops[q.idx]'(by omega)) (by simp) e he hb;refine lB (by rw[ht.size];omega) fun hf=>?_;rcases (ht.mem e.on).2 hf with⟨q',DR,Mo⟩|⟨h1,_⟩
    ·rcases List.mem_cons.1 DR with h|h
     ·subst h;omega
     ·have:=((List.pairwise_cons.1 zl.pw).1 _ h).lt
      omega
    ·omega
   rw[hr]at gF;cases gF
  ·obtain⟨FQ,oj,ET,mF⟩:=mem_ready.1 hj
   have NF:j<ops.size:=(Array.getElem?_eq_some_iff.1 ET).1;have RB:∃ q∈l,q.idx=j:=by
    rcases (ht.mem j).2 FQ with h|⟨h,_⟩
    ·exact h
    ·exfalso
     obtain⟨q,l',rfl⟩:=zf;have XI:=EO q (List.mem_cons_self ..);have Js:rt.fF[j]?=some (rt.fF[j]'(by rw[<- hlen];simpa using NF)):=List.getElem?_eq_getElem _;have h1:=qN ht.closed lU nX hlen (j+1) j oj _ (by omega) ET Js mF q.idx (by omega) (by rw[xP AP h Js];simp);have h2:=jS h1;rw[(ht.mem q.idx).1 (.inl ⟨q,List.mem_cons_self ..,rfl⟩)]at h2;cases h2
   obtain⟨q,hq,rfl⟩:=RB;obtain⟨l1,l2,rfl⟩:=List.append_of_mem hq;have wO:=List.pairwise_append.1 zl.pw;obtain⟨t,MO,NI⟩:=zl.iX q hq;have gQ:∀ p∈l1,FZ p q:=by
    intro p hp;have MN:=wO.2.2 p hp q (List.mem_cons_self ..);refine MN.free (Classical.byContradiction fun so=>?_);rw[NI]at so;have:=qN ht.closed lU nX hlen (q.idx+1) q.idx oj t (by omega) ET MO mF p.idx MN.lt so;have h3:=jS this;rw[(ht.mem p.idx).1 (.inl ⟨p,List.mem_append_left _ hp,rfl⟩)]at h3;cases h3
   obtain⟨n3,jm⟩:=pk.front gQ bt;have zY:=zl.news q hq;have AU:cz (aF st q.ws)=bT (cz st) q.ws:=y5 q.ws st zY (hu q hq);refine zl.snd q hq cx tN r m L F st a w n3.1 n3.2 hg (fun o ho k hk=>?_) _ _ fun a' L' F' w' cY eL nA=>?_
   ·rw[hn]
    exact hd o (by simpa using Array.mem_of_getElem? ho) k hk
   ·have gF:∀ p,p∈l1++l2->p∈l1++q::l2:=fun p hp=>by
     rcases List.mem_append.1 hp with h|h
     ·exact List.mem_append_left _ h
     ·exact List.mem_append_right _ (List.mem_cons_of_mem _ h)
    have ef:∀ p∈l1++l2,p.idx≠q.idx:=by
     intro p hp;rcases List.mem_append.1 hp with h|h
     ·have:=(wO.2.2 p h q (List.mem_cons_self ..)).lt;omega
     ·have:=((List.pairwise_cons.1 wO.2.1).1 p h).lt;omega
    refine ih (l:=l1++l2) (by simp at nZ ⊢;omega) (fun p hp=>EO p (gF p hp)) ⟨?_,fun p hp=>zl.snd p (gF p hp),fun p hp=>zl.news p (gF p hp),fun p hp=>zl.iX p (gF p hp)⟩ eL ((cV _ _).trans hs) (Tr.trans tr nA) (cY.trans hn) ?_ (by rw[AU];exact jm) ⟨fun i=>?_,?_,?_⟩
    ·exact List.pairwise_append.2 ⟨wO.1,(List.pairwise_cons.1 wO.2.1).2,fun x hx y hy=>wO.2.2 x hx y (List.mem_cons_of_mem _ hy)⟩
    ·intro p hp id dR
     rw[AU];refine(hu p (gF p hp) id dR).bT ?_ ?_
     ·rcases List.mem_append.1 hp with h|h
      ·exact(gQ p h).l.news id dR
      ·exact((List.pairwise_cons.1 wO.2.1).1 p h).names id dR
     ·rcases List.mem_append.1 hp with h|h
      ·exact(gQ p h).l.E9 id (gK dR)
      ·exact((List.pairwise_cons.1 wO.2.1).1 p h).E9 id dR
    ·by_cases px:q.idx=i
     ·subst px
      have dI:q.idx<a8.size:=by rw[ht.size];exact(Array.getElem?_eq_some_iff.1 ET).1
      have XI:=EO q hq;constructor
      ·rintro (⟨p,hp,he⟩|⟨h,_⟩)
       ·exact absurd he (ef p hp)
       ·omega
      ·intro h;simp[dI]at h
     ·rw[getD_set_ne true px,<- ht.mem i]
      constructor
      ·rintro (⟨p,hp,he⟩|h)
       ·exact .inl ⟨p,gF p hp,he⟩
       ·exact .inr h
      ·rintro (⟨p,hp,he⟩|h)
       ·refine .inl ⟨p,?_,he⟩
        rcases List.mem_append.1 hp with h|h
        ·exact List.mem_append_left _ h
        ·rcases List.mem_cons.1 h with rfl|h
         ·exact absurd he px
         ·exact List.mem_append_right _ h
       ·exact .inr h
    ·rw[Array.size_setIfInBounds];exact ht.size
    ·intro k o' hk Cp e he hb
     by_cases AO:q.idx=k
     ·subst AO
      rw[ET]at Cp;cases Cp;exact getD_set_true (mF e he hb)
     ·rw[getD_set_ne false AO]at hk
      exact getD_set_true (ht.closed k o' hk Cp e he hb)
theorem FG{ops:Array Oper}{rt:RT}(pz:kE ops.toList rt=true){b:Nat}(AP:JG rt.fF b=true){Q:Exit->Act->World->Prop} :
  ∀ (n i:Nat) {a8:Array Bool} {a:Act} {w:World},i+n=ops.size->b<=i->Gc ops i [] a8->wpOpsIn (fr r) 0 P ops Q (List.range' i n) a w->wpAnyIn (fr r) 0 P .any ops Q n a8 a w:=by
 simp only[kE,Bool.and_eq_true]at pz;obtain⟨⟨⟨⟨hlen,lU⟩,nX⟩,mG⟩,td⟩:=pz;have hlen:=Nat.eq_of_beq_eq_true hlen;intro n
 induction n with
 | zero=>
  intro i a8 a w hi hb ht h;refine⟨?_,h⟩
  cases hr:Region.ready .any ops a8 with
  | nil=>rfl
  | cons j _=>
   have hj:j∈Region.ready .any ops a8:=by rw[hr];exact List.mem_cons_self ..
   rcases (ht.mem j).2 (mem_ready.1 hj).1 with⟨q,hq,_⟩|⟨h1,h2⟩
   ·cases hq
   ·omega
 | succ n ih=>
  intro i a8 a w hi hb ht h;rw[List.range'_succ,wpOpsIn_cons]at h;refine⟨fun hr=>?_,fun j hj=>?_⟩
  ·exfalso
   have hu:=(ht.mem i).1 (.inr ⟨Nat.le_refl _,by omega⟩);have gF:i∈Region.ready .any ops a8:=by
    rw[mem_ready];refine⟨hu,ops[i]'(by omega),Array.getElem?_eq_getElem (by omega),fun e he GX=>?_⟩;have dI:=gV lU i (ops[i]'(by omega)) (by simp) e he GX;refine lB (by rw[ht.size];omega) fun hf=>?_;rcases (ht.mem e.on).2 hf with⟨q',DR,_⟩|⟨h1,_⟩
    ·cases DR
    ·omega
   rw[hr]at gF;cases gF
  ·obtain⟨FQ,oj,ET,mF⟩:=mem_ready.1 hj
   have NF:j<ops.size:=(Array.getElem?_eq_some_iff.1 ET).1;have V5:j=i:=by
    rcases (ht.mem j).2 FQ with⟨q,hq,_⟩|⟨h1,_⟩
    ·cases hq
    rcases Nat.lt_or_ge i j with h2|h2
    ·exfalso
     have Js:rt.fF[j]?=some (rt.fF[j]'(by rw[<- hlen];simpa using NF)):=List.getElem?_eq_getElem _;have h3:=qN ht.closed lU nX hlen (j+1) j oj _ (by omega) ET Js mF i h2 (by rw[xP AP (by omega) Js];simp);have h4:=jS h3;rw[(ht.mem i).1 (.inr ⟨Nat.le_refl _,by omega⟩)]at h4;cases h4
    ·omega
   subst V5;refine wpOpIn_mono (fun a' w' h'=>ih (j+1) (by omega) (by omega) ⟨fun k=>?_,?_,?_⟩ h') h
   ·by_cases AO:j=k
    ·subst AO
     have:j<a8.size:=by rw[ht.size];exact NF
     constructor
     ·rintro (⟨q,hq,_⟩|⟨h1,_⟩)
      ·cases hq
      ·omega
     ·intro h;simp[this]at h
    ·rw[getD_set_ne true AO,<- ht.mem k]
     constructor
     ·rintro (⟨q,hq,_⟩|⟨h1,h2⟩)
      ·cases hq
      ·exact .inr ⟨by omega,h2⟩
     ·rintro (⟨q,hq,_⟩|⟨h1,h2⟩)
      ·cases hq
      ·exact .inr ⟨by omega,h2⟩
   ·rw[Array.size_setIfInBounds];exact ht.size
   ·intro k o' hk Cp e he hb
    by_cases AO:j=k
    ·subst AO
     rw[ET]at Cp;cases Cp;exact getD_set_true (mF e he hb)
    ·rw[getD_set_ne false AO]at hk
     exact getD_set_true (ht.closed k o' hk Cp e he hb)
end
section
variable {P : Program} {T : dV} {ft : FT} {σ : Type} {Y : Hd σ}
theorem sV(hm:P.follows .mixedOrders=true)(hT:bl P T)(rt:RT)(b:Nat){id:Nat}{ops:Array Oper}(pz:kE ops.toList rt=true)(AP:(Nat.ble b ops.toList.length&&JG rt.fF b)=true){e:Env}{h:aq}{s:σ}{K:dX->St σ->Prop}
  (hk:sY rt.made e h fun e h=>Dj P T rt.made ops.toList ((ops.toList.zip rt.fF).take b) [] e h fun e h=>wpOps P T Y ops.toList (ops.toList.drop b) e h s fun e h s=>eB (aQ ft.ks e) fun e=>K .normal ⟨e,h,s⟩):yF P ft Y id ops ⟨e,h,s⟩ K:=by
 refine⟨fun cx hY r m L F a w hg hc=>?_⟩;rw[Bool.and_eq_true]at AP;have KR:b<=ops.size:=by have:=Nat.le_of_ble_eq_true AP.1;simpa using this
 have Hj:=pz;simp only[kE,Bool.and_eq_true]at Hj;obtain⟨⟨⟨⟨hlen,lU⟩,nX⟩,mG⟩,td⟩:=Hj;have hlen:=Nat.eq_of_beq_eq_true hlen;have hd:=vI hc;obtain⟨e1,h1,L1,hk,fP,hu⟩:=yO rt.made (fun d Q8=>by
  have:=List.all_eq_true.1 td d Q8;exact Nat.le_of_ble_eq_true this) hg hk (fun _=>False) (fun _ h=>h.elim)
 obtain⟨R,eN,hN,k1,k2,k3,k4,k5,k6⟩:=Ix hT mG ((ops.toList.zip rt.fF).take b) [] (fun j p hp=>by
  rw[List.getElem?_take]at hp;split at hp
  ·have:=List.getElem?_zip_eq_some.1 hp
   simpa using this
  ·cases hp) (fun k q hq=>by simp at hq) List.Pairwise.nil hk
 simp only[List.nil_append]at k4 k5;have Xr:R.length=b:=by
  rw[k3,List.length_take,List.length_zip,hlen];have:ops.toList.length=ops.size:=by simp
  omega
 have Ji:∀ q∈R,q.idx<b:=fun q hq=>by
  obtain⟨k,jc,wC⟩:=List.mem_iff_getElem.1 hq;have:=(k4 k q (by rw[List.getElem?_eq_getElem jc,wC])).1;omega
 have Kh:Tr F w F { w with drawn:=w.drawn+1 }:=Tr.drew _;refine wpIn_mono (wpIn_region_any (id:=id) (Q:=uA Y cx r m F w a.tmps.size (fun e h s=>eB (aQ ft.ks e) fun e=>K .normal ⟨e,h,s⟩)) hm ?_) fun ex a' w' hq=>?_
 ·have VZ:ops.size=(ops.size-b)+b:=by omega
  rw[VZ];refine FH (cx:=cx) hY.laid (r:=r) (m:=m) (s:=s) (n0:=a.tmps.size) (F0:=F) (w0:=w) (f':=⟨get eN,get hN⟩) pz KR AP.2 hd (fun a' w' L' F' st a8 hf hs eL tr hn ht=>?_) b (l:=R) (st:=⟨e1,h1,s⟩) Xr Ji
   ⟨k5,fun q hq=>?_,fun q hq=>?_,fun q hq=>?_⟩ (fP.same (w':={ w with drawn:=w.drawn+1 }) rfl rfl rfl rfl) rfl Kh rfl (fun q hq x hx=>hu x (.inl (k6 q hq x hx))) k2 ⟨fun i=>?_,by simp;omega,fun j o hj=>?_⟩
  ·have he:get st.env=get eN:=congrArg Fs.env hf
   have hh:get st.heap=get hN:=congrArg Fs.heap hf;have mf:=eL.sub (e:=eN) (h:=hN) (fun x v hx=>by rw[he];exact hx) (fun x v hx=>by rw[hh];exact hx);rw[hs]at mf;refine FG pz AP.2 (ops.size-b) b (by omega) (Nat.le_refl _) ht ?_;have:=oI hT hY (ops.toList.drop b) b (fun j=>by simp) mf hn (fun o ho=>hd o (List.mem_of_mem_drop ho)) tr k1;simpa using this
  ·obtain⟨k,jc,wC⟩:=List.mem_iff_getElem.1 hq
   exact(k4 k q (by rw[List.getElem?_eq_getElem jc,wC])).2.snd
  ·obtain⟨k,jc,wC⟩:=List.mem_iff_getElem.1 hq
   exact(k4 k q (by rw[List.getElem?_eq_getElem jc,wC])).2.news
  ·obtain⟨k,jc,wC⟩:=List.mem_iff_getElem.1 hq
   obtain⟨o,t,h1,h2,h3,_⟩:=(k4 k q (by rw[List.getElem?_eq_getElem jc,wC])).2.op;exact⟨t,h2,h3⟩
  ·rw[<- VZ,Array.getD_eq_getD_getElem?,Array.getElem?_replicate]
   constructor
   ·rintro (⟨q,hq,rfl⟩|⟨h1,h2⟩)
    ·have:=Ji q hq
     rw[if_pos (by omega)];rfl
    ·rw[if_pos h2];rfl
   ·intro hi
    by_cases IA:i<b
    ·exact .inl ⟨R[i],List.getElem_mem ..,(k4 i R[i] (List.getElem?_eq_getElem (by omega))).1⟩
    ·by_cases Jh:i<ops.size
     ·exact .inr ⟨by omega,Jh⟩
     ·rw[if_neg Jh]at hi;simp at hi
  ·rw[<- VZ,Array.getD_eq_getD_getElem?,Array.getElem?_replicate]at hj
   split at hj<;>cases hj
 ·rcases hq with⟨e',h',s',L',F',hex,hk,eL,tr,hs⟩|hp
  case inr=>exact .inr hp
  rw[gO]at hk;exact .inl ⟨.normal,_,m,L',F',hex,hk,eL.sub (g6 ft.ks e') (fun _ _ h=>h),tr,hs⟩
end
end Go.PX
namespace Go.PX
mutual
def gh:D->D
 | .agg cs=>.agg (mU cs)
 | .tup cs=>.tup (mU cs)
 | .vs es=>.vs (vW es)
 | .nils=>.vs []
 | .ref cs=>.ref (mU cs)
 | .bool b=>.bool b
 | .int k n=>.int k n
 | .str s=>.str s
 | .nilp=>.nilp
 | .mv b0=>.mv b0
 | .nilm=>.nilm
 | .clo f aL=>.clo f aL
 | .mth f first=>.mth f first
 | .nilf=>.nilf
 | .ifc t v=>.ifc t v
 | .nili=>.nili
def mU:List D->List D
 | []=>[]
 | c::r=>gh c::mU r
def vW:List (List D)->List (List D)
 | []=>[]
 | c::r=>mU c::vW r
end
theorem pU:∀ l:List D,(mU l).length=l.length
 | []=>rfl
 | c::r=>by simp only[mU,List.length_cons,pU r]
theorem pT:∀ l:List (List D),(vW l).length=l.length
 | []=>rfl
 | c::r=>by simp only[vW,List.length_cons,pT r]
mutual
theorem bD.gh{F:Nat->Nat}{w:World}:∀ (a:D) (v:Value),bD F w a v->bD F w (gh a) v
 | .agg cs,_,hr=>by
  obtain⟨l,rfl,hl⟩:=hr;exact⟨l,rfl,aS.gh cs _ hl⟩
 | .tup cs,_,hr=>by
  obtain⟨l,rfl,hl⟩:=hr;exact⟨l,rfl,aS.gh cs _ hl⟩
 | .vs es,_,hr=>by
  obtain⟨a,len,cap,rfl,hl,hc,he⟩:=hr;refine⟨a,len,cap,rfl,by rw[pT];exact hl,hc,fun ef=>?_⟩;obtain⟨b,off,sz,ha,hs,nC⟩:=he (by rintro rfl;exact ef rfl);exact⟨b,off,sz,ha,hs,cG.gh es b off sz nC⟩
 | .nils,_,hr=>by
  have hx:_=Value.slice none 0 0:=hr;subst hx;exact⟨none,0,0,rfl,rfl,Nat.le_refl _,fun h=>absurd rfl h⟩
 | .ref cs,_,hr=>by
  obtain⟨b,off,rfl,hc⟩:=hr;exact⟨b,off,rfl,cc.gh cs b off hc⟩
 | .bool _,_,hr=>hr
 | .int _ _,_,hr=>hr
 | .str _,_,hr=>hr
 | .nilp,_,hr=>hr
 | .mv _,_,hr=>hr
 | .nilm,_,hr=>hr
 | .clo _ _,_,hr=>hr
 | .mth _ _,_,hr=>hr
 | .nilf,_,hr=>hr
 | .ifc _ _,_,hr=>hr
 | .nili,_,hr=>hr
theorem aS.gh{F:Nat->Nat}{w:World}:∀ (cs:List D) (l:List Value),aS F w cs l->aS F w (mU cs) l
 | [],_,hr=>hr
 | c::r,_,hr=>by
  obtain⟨x,l',rfl,hc,hl⟩:=hr;exact⟨x,l',rfl,bD.gh c x hc,aS.gh r l' hl⟩
theorem cc.gh{F:Nat->Nat}{w:World}:∀ (cs:List D) (b off:Nat),cc F w b off cs->cc F w b off (mU cs)
 | [],_,_,_=>trivial
 | c::r,b,off,hr=>by
  obtain⟨hf,⟨x,hx,hc⟩,hl⟩:=hr;exact⟨hf,⟨x,hx,bD.gh c x hc⟩,cc.gh r b (off+1) hl⟩
theorem cG.gh{F:Nat->Nat}{w:World}:∀ (es:List (List D)) (b off sz:Nat),cG F w b off sz es->cG F w b off sz (vW es)
 | [],_,_,_,_=>trivial
 | e::r,b,off,sz,hr=>by
  obtain⟨hn,he,hl⟩:=hr;exact⟨by rw[pU];exact hn,cc.gh e b off he,cG.gh r b (off+sz) sz hl⟩
end
theorem aX.gh{P:Program}{f:FuncId}{ds:List D}{r:D}(h:aX P f ds r){r':D}(hr:PX.gh r=r'):aX P f ds r':=by
 subst hr;intro σ Y s;obtain⟨h1,h2⟩:=h Y s;refine⟨h1,fun cx hY L F a9 w hh hv=>(h2 cx hY L F a9 w hh hv).mono ?_⟩;rintro e w' ⟨x,rfl,v,h',s',L',F',⟨⟨rfl,rfl⟩,rfl⟩,tM,hx,tr,hp⟩;exact⟨x,rfl,_,_,_,L',F',⟨⟨rfl,rfl⟩,rfl⟩,tM,bD.gh r x hx,tr,hp⟩
theorem uZ:∀ (l:List V) (i k:Nat) (v:V),l[k]?=some v->get (ia i l) (i+k)=some v
 | [],_,k,v,h=>by simp at h
 | a::r,i,0,v,h=>by
  simp at h;subst h;simp[ia,get]
 | a::r,i,k+1,v,h=>by
  have ef:Nat.beq i (i+(k+1))=false:=by
   rw[Bool.eq_false_iff];intro e;have:=Nat.eq_of_beq_eq_true e;omega
  simp only[ia,get,ef];rw[show i+(k+1)=i+1+k by omega];exact uZ r (i+1) k v (by simpa using h)
theorem aj.of{yv:Option Nat}{L:Loc}{F:Nat->Nat}{w:World}:∀ {l:List V} {a9:List Value},l.length=a9.length->(∀ (k:Nat) (v:V),l[k]?=some v -> ∃ x,a9[k]?=some x/\aT yv L F w v x)->aj yv L F w l a9
 | [],[],_,_=>rfl
 | [],_::_,h,_=>by simp at h
 | _::_,[],h,_=>by simp at h
 | v::l,x::a9,h,hk=>by
  obtain⟨y,hy,hr⟩:=hk 0 v rfl;simp at hy;subst hy;exact⟨x,a9,rfl,hr,aj.of (by simpa using h) fun k u hu=>by simpa using hk (k+1) u (by simpa using hu)⟩
theorem IH{σ:Type}{l l':List V}{h h':aq}{s:σ}{Q:V->aq->σ->Prop}(hw:Wk (⟨ia 0 l,h,s⟩:St σ) ⟨ia 0 l',h',s⟩)(hlen:l'.length=l.length)(hl:Nat.ble l.length 1000=true)(hr:pj l' h' s Q):pj l h s Q:=by
 obtain⟨hr⟩:=hr;refine⟨fun cx L F a9 w hh hv=>?_⟩;have DT:a9.length=l.length:=by simpa using hv.length
 have hl:=Nat.le_of_ble_eq_true hl;have hg:Good { cx with pρ:=L.ρ,pκ:=L.κ,base:=[] } none [] L F ⟨ia 0 l,h,s⟩ { tmps:=a9.toArray,defers:=[] } w:=by
  refine⟨⟨hh.hg,hh.j6,hh.fresh,hh.obj,hh.own,hh.inj⟩,fun t v ht=>?_,rfl,(fun b hb=>by cases hb),List.nodup_nil,(fun l hl=>by cases hl),fun _ _=>⟨rfl,rfl⟩,by simp;omega⟩;obtain⟨k,hk,Hm⟩:=sg ht;rw[Nat.zero_add]at hk;subst hk;obtain⟨x,hx,Ju⟩:=hv.get t Hm;exact⟨x,by simpa using hx,Ju⟩
 obtain⟨L1,F1,fP,tr⟩:=hw _ _ _ _ _ _ _ hg;have WI:aj cx.yv L1 F1 w l' a9:=by
  refine aj.of (by omega) fun k v hk=>?_;obtain⟨x,hx,Ju⟩:=fP.env k v (by simpa using uZ l' 0 k v hk);exact⟨x,by simpa using hx,Ju⟩
 have G1:bp cx L1 F1 h' s w:=⟨fP.heap.hg,fP.heap.j6,fP.heap.fresh,fP.heap.obj,fP.heap.own,fP.heap.inj⟩;obtain⟨v,h2,L2,F2,q1,q2,q3,q4,q5⟩:=hr cx L1 F1 a9 w G1 WI;refine⟨v,h2,L2,F2,q1,q2,q3,Tr.trans tr q4,fun i hi=>?_⟩;obtain⟨p1,p2⟩:=q5 i hi;obtain⟨p3,p4⟩:=fP.mT i hi;exact⟨p1.trans p3,p2.trans p4⟩
end Go.PX
namespace Go.PX
open Go.RowKit
section
variable {κ : Type} [DecidableEq κ] (kd : κ -> D)
def pA(m:List (κ×Int)):List (D×D):=m.map fun p=>(kd p.1,.int .i64 p.2)
def getM:List (κ×Int)->κ->Option Int
 | [],_=>none
 | (u,x)::r,t=>if t=u then some x else getM r t
def pB:List (κ×Int)->κ->Int->List (κ×Int)
 | [],t,v=>[(t,v)]
 | (u,x)::r,t,v=>if t=u then (t,v)::r else (u,x)::pB r t v
variable {kd}
theorem qg(hs:∀ a b,gY (kd a) (kd b)=some (decide (a=b))){t:κ}:∀ {m:List (κ×Int)},getM m t=none -> ∀ n,findD (kd t) (pA kd m) n=some none
 | [],_,n=>rfl
 | (u,x)::r,h,n=>by
  rw[getM]at h;split at h
  ·cases h
  ·rename_i hu
   show(match gY (kd t) (kd u) with
    | some true=>some (some (n,D.int .i64 x))
    | some false=>findD (kd t) (pA kd r) (n+1)
    | none=>none)=_
   rw[hs,decide_eq_false hu];exact qg hs h (n+1)
theorem mw(hs:∀ a b,gY (kd a) (kd b)=some (decide (a=b))){t:κ}{v:Int}:∀ {m:List (κ×Int)},getM m t=some v -> ∀ n,∃ i,i<m.length/\findD (kd t) (pA kd m) n=some (some (n+i,.int .i64 v))/\(∀ y,(pA kd m).set i (kd t,.int .i64 y)=pA kd (pB m t y))/\oD (pA kd m) i (kd t)=pA kd m /\ ∀ y,oE (pA kd m) i (.int .i64 y)=pA kd (pB m t y)
 | [],h,n=>by cases h
 | (u,x)::r,h,n=>by
  rw[getM]at h;split at h
  ·rename_i hu
   cases h;subst hu;refine⟨0,by simp,?_,fun y=>?_,rfl,fun y=>?_⟩
   ·show(match gY (kd t) (kd t) with
     | some true=>some (some (n,D.int .i64 v))
     | some false=>findD (kd t) (pA kd r) (n+1)
     | none=>none)=_
    rw[hs,decide_eq_true rfl];rfl
   ·rw[pB,if_pos rfl];rfl
   ·rw[pB,if_pos rfl];rfl
  ·rename_i hu
   obtain⟨i,h0,h1,h2,h3,h4⟩:=mw hs h (n+1);refine⟨i+1,by simp;omega,?_,fun y=>?_,?_,fun y=>?_⟩
   ·show(match gY (kd t) (kd u) with
     | some true=>some (some (n,D.int .i64 x))
     | some false=>findD (kd t) (pA kd r) (n+1)
     | none=>none)=_
    rw[hs,decide_eq_false hu];show findD (kd t) (pA kd r) (n+1)=_;rw[h1,show n+1+i=n+(i+1) by omega]
   ·rw[pB,if_neg hu]
    show(kd u,D.int .i64 x)::(pA kd r).set i (kd t,.int .i64 y)=(kd u,D.int .i64 x)::pA kd (pB r t y);rw[h2 y]
   ·show(kd u,D.int .i64 x)::oD (pA kd r) i (kd t)=_
    rw[h3];rfl
   ·rw[pB,if_neg hu]
    show(kd u,D.int .i64 x)::oE (pA kd r) i (.int .i64 y)=(kd u,D.int .i64 x)::pA kd (pB r t y);rw[h4 y]
theorem sC{t:κ}(y:Int):∀ {m:List (κ×Int)},getM m t=none->pA kd m ++ [(kd t,.int .i64 y)]=pA kd (pB m t y)
 | [],_=>rfl
 | (u,x)::r,h=>by
  rw[getM]at h;split at h
  ·cases h
  ·rename_i hu
   rw[pB,if_neg hu];show(kd u,D.int .i64 x)::(pA kd r ++ [(kd t,.int .i64 y)])=_;rw[sC y h];rfl
theorem re(m:List (κ×Int))(t u:κ)(y:Int):getM (pB m t y) u=if u=t then some y else getM m u:=by
 induction m with
 | nil=>rfl
 | cons p r ih=>
  obtain⟨w,x⟩:=p;rw[pB];split
  ·rename_i h
   subst h;simp only[getM];split<;>rfl
  ·rename_i h
   simp only[getM];split
   ·rename_i h2
    subst h2;rw[if_neg (fun e=>h e.symm)]
   ·exact ih
end
def Hx(P:Program)(t:TypeId)(name:String)(g:FuncId):Bool:=
 match P.info? t,P.underlying t with
 | some i,some d=>(match d with
  | .pointer _=>false
  | _=>true)&&(match i.methods.find? (·.name ==name) with
  | some m=>m.path.isEmpty&&(match m.func with
   | some (g',false)=>g' ==g
   | _=>false)
  | none=>false)
 | _,_=>false
theorem JJ{P:Program}{t:TypeId}{name:String}{g:FuncId}(h:Hx P t name g=true)(v:Value)(w:World):(method (P.types.size+Made.depth) t v name).run P w = .ok (g,v) w:=by
 unfold Hx at h;split at h;case h_2=>cases h
 rename_i i d hi hd;rw[Bool.and_eq_true]at h;obtain⟨hp,h⟩:=h;split at h;case h_2=>cases h
 rename_i m hm;rw[Bool.and_eq_true]at h;obtain⟨Rx,h⟩:=h;split at h;case h_2=>cases h
 rename_i g' hf;have:g'=g:=by simpa using h
 subst this;obtain⟨n,hn⟩:∃ n,P.types.size+Made.depth=n+1:=⟨P.types.size+99,rfl⟩;have nr:m.path.toList = []:=by
  have:m.path = #[]:=by simpa using Rx
  rw[this]
 rw[hn,method];have h1:(typeInfo t).run P w = .ok i w:=by simp[typeInfo,hi]
 have hu:(underlying t).run P w = .ok d w:=run_underlying hd w;simp only[Sem.run_bind,h1,Result.andThen_ok,hm,nr,follow,Sem.run_pure,hf];cases d<;>first|(simp at hp;done)|simp[receiverAt,hu,Sem.run_bind,Place.get]
theorem F7{P:Program}{t:TypeId}{name:String}{K:FuncId->Prop}(g:FuncId)(h:Hx P t name g=true)(hk:K g):yB P t name K:=⟨g,JJ h,hk⟩
end Go.PX
namespace Go.PX
open Go.Proofs
structure Pt where
 x:Int
 y:Int
def Pt.sub(a b:Pt):Pt:=⟨a.x-b.x,a.y-b.y⟩
def aR(o w:Pt):Int:=o.x*w.y-o.y*w.x
def Pt.cells(p:Pt):List D:=[i64 p.x,i64 p.y]
def Pt.d(p:Pt):D:=.agg p.cells
def g9(l:List Pt):D:=.vs (l.map Pt.cells)
structure jZ(m:Int)(p:Pt):Prop where
 x : -m<=p.x/\p.x<=m
 y : -m<=p.y/\p.y<=m
theorem jZ.mono{m n:Int}{p:Pt}(h:jZ m p)(MH:m<=n):jZ n p:=⟨by have:=h.x;omega,by have:=h.y;omega⟩
theorem jZ.sub{m n:Int}{a b:Pt}(ha:jZ m a)(hb:jZ n b):jZ (m+n) (a.sub b):=by
 have h1:=ha.x;have h2:=ha.y;have h3:=hb.x;have h4:=hb.y;exact⟨by show -(m+n)<=a.x-b.x/\a.x-b.x<=m+n;omega,by show -(m+n)<=a.y-b.y/\a.y-b.y<=m+n;omega⟩
theorem um{a b:Int}(ha : -1000000000<=a/\a<=1000000000)(hb : -1000000000<=b/\b<=1000000000) : -1000000000000000000<=a*b/\a*b<=1000000000000000000:=by
 have:=CE (a:=a) (b:=b) 1000000000 1000000000 (by omega) (by omega);simpa using this
theorem LH(a b:Pt)(ha:jZ 1000000000000 a)(hb:jZ 1000000000000 b):aX Tryz.prog 160 [a.d,b.d] (b.sub a).d:=by
 refine aB Tryz.func160 rfl (ft:=PT) 2 fun {σ} Y st=>?_;conv=>whnf
 have h1:=ha.x;have h2:=ha.y;have h3:=hb.x;have h4:=hb.y;refine af ?_;conv=>whnf
 refine af ?_;conv=>whnf
 exact ae
theorem Ky(o w:Pt)(ho:jZ 1000000000 o)(hw:jZ 1000000000 w):aX Tryz.prog 172 [o.d,w.d] (i64 (aR o w)):=by
 refine aB Tryz.func172 rfl (ft:=P3) 2 fun {σ} Y st=>?_;conv=>whnf
 have h1:=um ho.x hw.y;have h2:=um ho.y hw.x;refine af ?_;conv=>whnf
 refine af ?_;conv=>whnf
 refine af ?_;conv=>whnf
 exact ae
theorem Oh(l:List Pt)(g:FuncId)(aL:List D)(p:Pt->Bool)(hl:l.length<4000000000000000000)(hp:∀ x∈l,aX Tryz.prog g (.agg x.cells::aL) (.bool (p x))) :
  aX Tryz.prog 176 [g9 l,.clo g aL] (i64 (indexOf p l 0)):=by
 refine aB Tryz.func176 rfl (ft:=P7) 2 fun {σ} Y st=>?_;conv=>whnf
 refine ba (T:=tys) ao (by exact ai mixed ao (by decide +kernel)) l (fun i (_:Unit)=>⟨[(0,.d (g9 l)),(1,.d (.clo g aL)),(7,.d (i64 l.length)),(8,.d (i64 i))],[],st⟩) (fun i r _=>indexOf p l 0=indexOf p r i) () aI rfl ?_ ?_
 ·intro i x r _ hx hi hr he
  rw[indexOf]at he;conv=>whnf
  refine ag (fun _=>?_) (fun h=>absurd hi (by simpa using h));conv=>whnf
  refine au hx ?_;conv=>whnf
  refine ah (hp x (List.mem_of_getElem? hx)) rfl rfl ?_;conv=>whnf
  refine ag (fun h1=>?_) (fun h1=>?_)
  ·conv=>whnf
   rw[he,if_pos h1];exact ae
  ·rw[if_neg (by simp[h1])]at he
   conv=>whnf
   refine af ?_;conv=>whnf
   exact⟨(),he,aI⟩
 ·intro _ he
  conv=>whnf
  refine ag (fun h=>absurd h (by simp)) (fun _=>?_);conv=>whnf
  rw[he];exact ae
theorem Oc(l:List Pt)(g:FuncId)(aL:List D)(p:Pt->Bool)(hl:l.length<4000000000000000000)(hp:∀ x∈l,aX Tryz.prog g (.agg x.cells::aL) (.bool (p x))) :
  aX Tryz.prog 169 [g9 l,.clo g aL] (.bool (l.any p)):=by
 refine aB Tryz.func169 rfl (ft:=P0) 2 fun {σ} Y st=>?_;conv=>whnf
 refine ah (Oh l g aL p hl hp) rfl rfl ?_;conv=>whnf
 refine an 0 rfl ⟨⟨?_,rfl⟩,rfl⟩;rw[<- eO p l 0 (by omega)];rfl
theorem IW(lo hi a b c d:Int):aX Tryz.prog 155 [i64 lo,i64 hi,.vs [[i64 a],[i64 b],[i64 c],[i64 d]]] (.bool (!((a6 a lo hi&&a6 b lo hi)&&(a6 c lo hi&&a6 d lo hi)))):=by
 exact aX.cast (GG lo hi [a,b,c,d] (by simp)) (by simp only[List.any_cons,List.any_nil,mS];cases a6 a lo hi<;>cases a6 b lo hi<;>cases a6 c lo hi<;>cases a6 d lo hi<;>rfl)
def bW(m:Int)(p:Pt):Bool:=a6 p.x (-m) m&&a6 p.y (-m) m
theorem within_iff{m:Int}{p:Pt}:bW m p=true↔jZ m p:=by
 unfold bW;rw[Bool.and_eq_true,bq,bq];exact⟨fun⟨a,b⟩=>⟨a,b⟩,fun⟨a,b⟩=>⟨a,b⟩⟩
theorem Od(p:Pt)(m:Int)(hm:0<=m/\m<=1000000000):aX Tryz.prog 170 [.agg p.cells,.ref [i64 m]] (.bool (!bW m p)):=by
 refine aB Tryz.func170 rfl (ft:=P1) 2 fun {σ} Y st=>?_;conv=>whnf
 refine aA ((-m)) (by(try dsimp only);omega) (wrap_i64 (by(try dsimp only);omega)) ?_;conv=>whnf
 refine ak (DB (-m) m p.x p.y) rfl 1 rfl ?_;conv=>whnf
 exact ae
theorem LG(m:Int)(l:List Pt)(hm:0<=m/\m<=1000000000)(hl:l.length<4000000000000000000):aX Tryz.prog 158 [i64 m,g9 l] (.bool (l.any fun p=>!bW m p)):=by
 refine aB Tryz.func158 rfl (ft:=PR) 2 fun {σ} Y st=>?_;conv=>whnf
 refine ak (ds:=[g9 l,.clo 170 [.ref [i64 m]]]) (Oc l 170 [.ref [i64 m]] (fun p=>!bW m p) hl fun p _=>Od p m hm) rfl 2 rfl ?_;conv=>whnf
 exact ae
structure zZ where
 x:Span
 y:Span
 deriving DecidableEq
def zZ.cells(b:zZ):List D:=[i64 b.x.lo,i64 b.x.hi,i64 b.y.lo,i64 b.y.hi]
def zZ.d(b:zZ):D:=.agg b.cells
def nL(m:Int)(b:zZ):Int:=
 if (a6 b.x.lo (-m) m&&a6 b.x.hi (-m) m)&&(a6 b.y.lo (-m) m&&a6 b.y.hi (-m) m) then (if a6 (b.x.hi-b.x.lo) 0 40&&a6 (b.y.hi-b.y.lo) 0 40 then 0 else 2) else 7
theorem Tk(b:zZ)(m:Int)(hm:0<=m/\m<=1000000000):aX Tryz.prog 173 [b.d,i64 m] (i64 (nL m b)):=by
 refine aB Tryz.func173 rfl (ft:=P4) 2 fun {σ} Y st=>?_;conv=>whnf
 refine aA ((-m)) (by(try dsimp only);omega) (wrap_i64 (by(try dsimp only);omega)) ?_;conv=>whnf
 refine ak (IW (-m) m b.x.lo b.x.hi b.y.lo b.y.hi) rfl 1 rfl ?_;conv=>whnf
 unfold nL
 cases h1:(a6 b.x.lo (-m) m&&a6 b.x.hi (-m) m)&&(a6 b.y.lo (-m) m&&a6 b.y.hi (-m) m) with
 | false=>
  conv=>whnf
  exact ae
 | true=>
  simp only[Bool.and_eq_true,bq]at h1;conv=>whnf
  refine af ?_;conv=>whnf
  refine af ?_;conv=>whnf
  refine ak (DB 0 40 (b.x.hi-b.x.lo) (b.y.hi-b.y.lo)) rfl 1 rfl ?_
  cases h2:a6 (b.x.hi-b.x.lo) 0 40&&a6 (b.y.hi-b.y.lo) 0 40 with
  | false=>
   conv=>whnf
   exact ae
  | true=>
   conv=>whnf
   exact ae
structure e9 where
 day:Int
 kl:Int
 deriving DecidableEq
def e9.cells(p:e9):List D:=[i64 p.day,i64 p.kl]
def ix(l:List e9):D:=.vs (l.map e9.cells)
structure Mark where
 name:ByteArray
 jz:Pt
 cg:List e9
def Mark.cells(m:Mark):List D:=[.str m.name,i64 m.jz.x,i64 m.jz.y,ix m.cg]
def Mark.d(m:Mark):D:=.agg m.cells
def zr(l:List Mark):D:=.vs (l.map Mark.cells)
structure gC where
 name:ByteArray
 az:List Pt
 dS:zZ
def gC.cells(s:gC):List D:=[.str s.name,g9 s.az,i64 s.dS.x.lo,i64 s.dS.x.hi,i64 s.dS.y.lo,i64 s.dS.y.hi]
def gC.d(s:gC):D:=.agg s.cells
def zI(l:List gC):D:=.vs (l.map gC.cells)
structure pE where
 marks:List Mark
 eR:List gC
def pE.cells(c:pE):List D:=[zr c.marks,zI c.eR]
def pE.d(c:pE):D:=.agg c.cells
def ot:Int->List e9->Int
 | _,[]=>0
 | last,p::r=>if a6 p.day 0 40000&&a6 p.kl 0 4 then (if p.day<=last then 2 else ot p.day r) else 7
def fw(l:List e9):Int:=if a6 l.length 1 4 then ot (-1) l else 3
set_option maxHeartbeats 1000000 in
theorem Tb(l:List e9):aX Tryz.prog 163 [ix l] (i64 (fw l)):=by
 refine aB Tryz.func163 rfl (ft:=PU) 1 fun {σ} Y st=>?_;conv=>whnf
 refine ak (oR 1 4 l.length) rfl 1 (by simp;rfl) ?_;unfold fw
 cases h:a6 (l.length:Int) 1 4 with
 | false=>
  conv=>whnf
  exact ae
 | true=>
  rw[bq]at h;conv=>whnf
  refine ba (T:=tys) ao (by exact ai mixed ao (by decide +kernel)) l (fun i (last:Int)=>⟨[(2,.d (i64 0)),(3,.d (i64 last)),(10,.d (ix l)),(11,.d (i64 l.length)),(12,.d (i64 i))],[],st⟩) (fun i r last=>ot (-1) l=ot last r) (-1) aI rfl ?_ ?_
  ·rintro i p r last hp hi hr he
   rw[ot]at he;conv=>whnf
   refine ag (fun _=>?_) (fun h=>absurd hi (by simpa using h));conv=>whnf
   refine au hp ?_;conv=>whnf
   refine ak (oR 0 40000 p.day) rfl 1 rfl ?_
   cases h1:a6 p.day 0 40000 with
   | false=>
    rw[h1,Bool.false_and,if_neg (by simp)]at he;rw[he];conv=>whnf
    exact ae
   | true=>
    conv=>whnf
    refine ak (oR 0 4 p.kl) rfl 1 rfl ?_
    cases h2:a6 p.kl 0 4 with
    | false=>
     rw[h1,h2,Bool.and_false,if_neg (by simp)]at he;rw[he];conv=>whnf
     exact ae
    | true=>
     rw[h1,h2,Bool.and_true,if_pos rfl]at he;conv=>whnf
     refine ag (fun h3=>?_) (fun h3=>?_)
     ·rw[if_pos (of_decide_eq_true h3)]at he
      rw[he];conv=>whnf
      exact ae
     ·rw[if_neg (of_decide_eq_false h3)]at he
      conv=>whnf
      refine af ?_;conv=>whnf
      exact⟨p.day,he,aI⟩
  ·rintro last he
   conv=>whnf
   refine ag (fun h=>absurd h (by simp)) (fun _=>?_);conv=>whnf
   rw[he];exact ae
def cj:List Pt:=[⟨0,1000⟩,⟨195,981⟩,⟨383,924⟩,⟨556,831⟩,⟨707,707⟩,⟨831,556⟩,⟨924,383⟩,⟨981,195⟩]
def ow:List D:=[i64 0,i64 1000,i64 195,i64 981,i64 383,i64 924,i64 556,i64 831,i64 707,i64 707,i64 831,i64 556,i64 924,i64 383,i64 981,i64 195]
theorem S9:aX Tryz.prog 171 [] (.agg ow):=by
 refine aB Tryz.func171 rfl (ft:=P2) 0 fun {σ} Y st=>?_;conv=>whnf
 exact ae
def H3(v:Pt):Pt:=⟨v.y,-v.x⟩
def CY:Nat->Pt->Pt
 | 0,v=>v
 | n+1,v=>CY n (H3 v)
def FE(p:Int):Pt:=CY (p/8).toNat ((cj[(p%8).toNat]?).getD ⟨0,0⟩)
theorem Vp{k:Nat}(hk:k<8){t:pF}(ht:t.isAgg=true)(hs:t.size=2){K:V->Prop}(h:K (.d ((cj[k]?).getD ⟨0,0⟩).d)):Cells.pr t (.dd ow) (k*2) K:=by
 unfold Cells.pr;rw[ht,hs];have e:∀ k,k<8->Nat.ble (k*2+2) (Cells.dd ow).len=true/\(Cells.dd ow).sub (k*2) 2 = .d ((cj[k]?).getD ⟨0,0⟩).d:=by
  intro k hk
  match k,hk with
  | 0,_=>exact⟨rfl,rfl⟩
  | 1,_=>exact⟨rfl,rfl⟩
  | 2,_=>exact⟨rfl,rfl⟩
  | 3,_=>exact⟨rfl,rfl⟩
  | 4,_=>exact⟨rfl,rfl⟩
  | 5,_=>exact⟨rfl,rfl⟩
  | 6,_=>exact⟨rfl,rfl⟩
  | 7,_=>exact⟨rfl,rfl⟩
 obtain⟨e1,e2⟩:=e k hk;show eW _ _;rw[e2];exact bc e1 h
theorem vV{k:Nat}(hk:k<8):jZ 1000 ((cj[k]?).getD ⟨0,0⟩):=by
 match k,hk with
 | 0,_=>exact⟨by decide,by decide⟩
 | 1,_=>exact⟨by decide,by decide⟩
 | 2,_=>exact⟨by decide,by decide⟩
 | 3,_=>exact⟨by decide,by decide⟩
 | 4,_=>exact⟨by decide,by decide⟩
 | 5,_=>exact⟨by decide,by decide⟩
 | 6,_=>exact⟨by decide,by decide⟩
 | 7,_=>exact⟨by decide,by decide⟩
def Lg(x:Pt×Pt):D:=.agg (x.1.cells++x.2.cells)
def Lh(x:Pt×Pt):List V×aq:=([.d (Lg x)],[])
def m3:Pt->List Pt->List (Pt×Pt)
 | _,[]=>[]
 | a,p::r=>(a,p.sub a)::m3 p r
def A4(l:List Pt):Pt:=(l[l.length-1]?).getD ⟨0,0⟩
def kK(s:gC):List (Pt×Pt):=m3 (A4 s.az) s.az
theorem Oe(s:gC):aX Tryz.prog 174 [s.d] (.clo 177 [.ref s.cells]):=by
 refine aB Tryz.func174 rfl (ft:=P5) 1 fun {σ} Y st=>?_;conv=>whnf
 exact an 1 rfl ⟨⟨rfl,rfl⟩,rfl⟩
def GM:FT:=⟨GL.ks,cut GL.tb 4⟩
def R7:RT:=match get GL.tb 4 with
 | some r=>r
 | none=>⟨[],[]⟩
theorem FK(s:gC)(hl:0<s.az.length)(hlm:s.az.length<1000000)(hp:∀ p∈s.az,jZ 1000000000000 p):Yields Tryz.prog 177 [.ref s.cells] ((kK s).map Lh):=by
 intro γ Y g0 Q fD;refine cX mixed ao Tryz.func177 rfl (ft:=GM) (args:=[.yld,.d (.ref s.cells)]) (show qC GM Tryz.f177 2=true from by decide +kernel) ?_;replace fD:=fD.np;generalize Y.np=Y at fD ⊢;obtain⟨q,hq⟩:∃ q,s.az[s.az.length-1]?=some q:=⟨s.az[s.az.length-1]'(by omega),by simp⟩;conv=>whnf
 refine aA ((s.az.length-1:Nat):Int) (by simp;omega) (wrap_i64 (by omega)) ?_;conv=>whnf
 refine au hq ?_;conv=>whnf
 have ZD:kK s=m3 q s.az:=by unfold kK A4;rw[hq];rfl
 rw[ZD]at fD;have Zx:jZ 1000000000000 q:=hp q (List.mem_of_getElem? hq);refine bP (T:=tys) ao (by exact ai mixed ao (by decide +kernel)) (α:=Nat×Pt×γ)
  (fun x=>⟨[(0,.yld),(3,.ptr 3 0),(18,.d (g9 s.az)),(19,.d (i64 s.az.length)),(20,.d (i64 x.1))],[(3,.box (.dd x.2.1.cells))],x.2.2⟩)
  (fun x=>x.1<=s.az.length/\jZ 1000000000000 x.2.1/\iterate Y ((m3 x.2.1 (s.az.drop x.1)).map Lh) x.2.2 Q) (fun x=>s.az.length-x.1) (0,q,g0) ?wk ⟨Nat.zero_le _,Zx,by simpa using fD⟩ ?_
 case wk=>exact aI
 clear fD g0;rintro ⟨i,a,g0⟩ ⟨hi,ha,fD⟩;simp only at hi ha fD;conv=>whnf
 refine ag (fun h1=>?_) (fun h1=>?_)
 ·have h1:i<s.az.length:=by have:=of_decide_eq_true h1;simp at this;omega
  obtain⟨p,Hf⟩:∃ p,s.az[i]?=some p:=⟨s.az[i],by simp⟩;have K3:jZ 1000000000000 p:=hp p (List.mem_of_getElem? Hf);have VR:s.az.drop i=p::s.az.drop (i+1):=by
   rw[List.drop_eq_getElem_cons h1];rw[List.getElem?_eq_getElem h1]at Hf;rw[Option.some.inj Hf]
  rw[VR,m3,List.map_cons]at fD;conv=>whnf
  refine au Hf ?_;conv=>whnf
  refine sV mixed ao R7 6 (by decide +kernel) (by decide +kernel) ?_;conv=>whnf
  refine aw (ds:=[a.d,p.d]) (LH a p ha K3) rfl 1 rfl ?_;conv=>whnf
  refine uF (ds:=[Lg (a,p.sub a)]) fD rfl rfl (fun s' G4=>?_) (fun s' DR=>?_)
  ·conv=>whnf
   refine af ?_;conv=>whnf
   exact⟨(i+1,p,s'),by simp only;omega,⟨by simp only;omega,K3,G4⟩,aI⟩
  ·conv=>whnf
   exact an 0 rfl ⟨rfl,DR⟩
 ·have h1:¬ i<s.az.length:=by have:=of_decide_eq_false h1;simp at this;omega
  rw[List.drop_of_length_le (by omega)]at fD;conv=>whnf
  exact an 0 rfl ⟨rfl,fD⟩
def lH(x:Pt×Pt):List Pt->Int->Int
 | [],n=>n
 | p::r,n=>lH x r (if aR x.2 (p.sub x.1)<=0 then n+1 else n)
def iA(s:gC)(x:Pt×Pt):Bool:=decide (lH x s.az 0=2) && !(decide (x.2.x=0)&&decide (x.2.y=0))
def iH(s:gC):Int:=
 if a6 s.az.length 3 8 then (if (s.az.any fun p=>!bW 10000 p) then 7 else if nL 500 s.dS=0 then (if (kK s).all (iA s) then 0 else 9) else nL 500 s.dS) else 3
theorem vB{m:Int}:∀ {l:List Pt} {a:Pt},jZ m a->(∀ p∈l,jZ m p) -> ∀ x∈m3 a l,jZ m x.1/\jZ (m+m) x.2
 | [],_,_,_,x,hx=>by cases hx
 | p::r,a,ha,hl,x,hx=>by
  rw[m3]at hx;have hp:=hl p (by simp);rcases List.mem_cons.1 hx with rfl|hx
  ·exact⟨ha,hp.sub ha⟩
  ·exact vB hp (fun q hq=>hl q (by simp[hq])) x hx
theorem HT{m:Int}{l:List Pt}(h0:0<l.length)(hl:∀ p∈l,jZ m p):jZ m (A4 l):=by
 unfold A4;have h1:l.length-1<l.length:=by omega
 rw[List.getElem?_eq_getElem h1];exact hl _ (List.getElem_mem h1)
theorem CD{m:Int}{s:gC}(h0:0<s.az.length)(hl:∀ p∈s.az,jZ m p):∀ x∈kK s,jZ m x.1/\jZ (m+m) x.2:=vB (HT h0 hl) hl
set_option maxHeartbeats 1000000 in
theorem Tc(s:gC):aX Tryz.prog 164 [.agg s.cells] (i64 (iH s)):=by
 refine aB Tryz.func164 rfl (ft:=PV) 1 fun {σ} Y st=>?_;conv=>whnf
 refine ak (oR 3 8 s.az.length) rfl 1 (by simp;rfl) ?_
 cases h1:a6 (s.az.length:Int) 3 8 with
 | false=>
  have he:iH s=3:=by unfold iH;rw[h1];rfl
  rw[he];conv=>whnf
  exact ae
 | true=>
  have QK:=h1;rw[bq]at h1;conv=>whnf
  refine ah (LG 10000 s.az (by omega) (by omega)) rfl rfl ?_;conv=>whnf
  cases h2:s.az.any fun p=>!bW 10000 p with
  | true=>
   have he:iH s=7:=by unfold iH;rw[QK,h2];rfl
   rw[he];conv=>whnf
   exact ae
  | false=>
   have hp:∀ p∈s.az,jZ 10000 p:=by
    intro p hp;have:=List.any_eq_false.1 h2 p hp;exact within_iff.1 (by simpa using this)
   conv=>whnf
   refine ah (Tk s.dS 500 (by omega)) rfl rfl ?_;conv=>whnf
   refine ag (fun h3=>?_) (fun h3=>?_)
   ·have h3:¬ nL 500 s.dS=0:=by simpa using h3
    have he:iH s=nL 500 s.dS:=by unfold iH;rw[QK,h2,if_pos rfl,if_neg (by simp),if_neg h3]
    rw[he];conv=>whnf
    exact ae
   ·have h3:nL 500 s.dS=0:=by simpa using h3
    have he:iH s=if (kK s).all (iA s) then 0 else 9:=by unfold iH;rw[QK,h2,if_pos rfl,if_neg (by simp),if_pos h3]
    rw[he];conv=>whnf
    refine ah (Oe s) rfl rfl ?_;conv=>whnf
    refine ji ao (by exact ai mixed ao (by decide +kernel)) (by exact ai mixed ao (by decide +kernel)) rfl 1500000 1600000 [1,2,13] (FK s (by omega) (by omega) (fun p h=>(hp p h).mono (by omega)))
     (fun(_:Unit)=>([(1500000,.box (.dd s.cells)),(1500001,.box (.dd [i64 0])),(1500002,.arr 1 (.dd [[i64 (s.az.map Pt.cells).length]]))],st))
     (fun rest _=>(kK s).all (iA s)=rest.all (iA s) /\ ∀ x∈rest,jZ 10000 x.1/\jZ 20000 x.2) () rfl rfl rfl ⟨rfl,CD (by omega) hp⟩ ?_ ?_
    ·rintro ⟨a,b⟩ rest _ ⟨hk,hl⟩ Q FO Nz
     refine⟨⟨rfl,rfl⟩,?_⟩;obtain⟨ha,hb⟩:=hl (a,b) (by simp);simp only at ha hb;rw[List.all_cons]at hk;conv=>whnf
     refine ba (T:=tys) ao (by exact ai mixed ao (by decide +kernel)) s.az (fun i (n:Int)=>⟨[(1,.ptr 1500000 0),(2,.ptr 1500001 0),(4,.ptr 4 0),(5,.d (i64 n)),(32,.d (g9 s.az)),(33,.d (i64 (s.az.map Pt.cells).length)),(34,.d (i64 i))],[(1500000,.box (.dd s.cells)),(1500001,.box (.dd [i64 0])),(1500002,.arr 1 (.dd [[i64 (s.az.map Pt.cells).length]])),(4,.box (.dd (a.cells++b.cells)))],st⟩) (fun i r n=>0<=n/\n<=i/\lH (a,b) s.az 0=lH (a,b) r n) 0 aI ⟨Int.le_refl _,by simp,rfl⟩ ?_ ?_
     ·rintro i p r n Hf hi hr ⟨sq,ER,Jp⟩
      rw[lH]at Jp;have K3:=hp p (List.mem_of_getElem? Hf);conv=>whnf
      refine ag (fun _=>?_) (fun h=>absurd hi (by simpa using h));conv=>whnf
      refine au Hf ?_;conv=>whnf
      refine aw (ds:=[a.d,p.d]) (LH a p (ha.mono (by omega)) (K3.mono (by omega))) rfl 1 rfl ?_;conv=>whnf
      refine aw (ds:=[b.d,(p.sub a).d]) (Ky b (p.sub a) (hb.mono (by omega)) ((K3.sub ha).mono (by omega))) rfl 1 rfl ?_;conv=>whnf
      refine ag (fun h4=>?_) (fun h4=>?_)
      ·rw[if_pos (of_decide_eq_true h4)]at Jp
       conv=>whnf
       refine af ?_;conv=>whnf
       conv=>whnf
       refine af ?_;conv=>whnf
       exact⟨n+1,⟨by omega,by omega,Jp⟩,aI⟩
      ·rw[if_neg (of_decide_eq_false h4)]at Jp
       conv=>whnf
       refine af ?_;conv=>whnf
       exact⟨n,⟨by omega,by omega,Jp⟩,aI⟩
     ·rintro n ⟨sq,ER,Jp⟩
      conv=>whnf
      refine ag (fun h=>absurd h (by simp)) (fun _=>?_);conv=>whnf
      have QX:iA s (a,b)=false->(kK s).all (iA s)=false:=fun h=>by rw[hk,h,Bool.false_and]
      have Wx:iA s (a,b)=(decide (n=2) && !(decide (b.x=0)&&decide (b.y=0))):=by
       unfold iA;rw[Jp,lH]
      cases h5:decide (n=2) with
      | false=>
       have h6:=QX (by rw[Wx,h5];rfl);conv=>whnf
       refine⟨[(1500000,.box (.dd s.cells)),(1500001,.box (.dd [i64 9])),(1500002,.arr 1 (.dd [[i64 (s.az.map Pt.cells).length]]))],st,aI,rfl,Nz _ _ _ ?_⟩;conv=>whnf
       rw[h6];exact ae
      | true=>
       conv=>whnf
       refine ag (fun h6=>?_) (fun h6=>?_)
       ·have h6:=QX (by rw[Wx,h5];rw[Bool.and_true]at h6;rw[h6];rfl)
        conv=>whnf
        refine⟨[(1500000,.box (.dd s.cells)),(1500001,.box (.dd [i64 9])),(1500002,.arr 1 (.dd [[i64 (s.az.map Pt.cells).length]]))],st,aI,rfl,Nz _ _ _ ?_⟩;conv=>whnf
        rw[h6];exact ae
       ·conv=>whnf
        refine⟨(),aI,rfl,FO _ ⟨?_,fun x hx=>hl x (by simp[hx])⟩⟩;rw[hk,Wx,h5];rw[Bool.and_true]at h6;rw[h6];rfl
    ·rintro _ ⟨hk,_⟩
     rw[hk];conv=>whnf
     exact ae
abbrev uz:=List (ByteArray×Int)
def kS(m:uz)(n:ByteArray):uz:=pB m n ((getM m n).getD 0+1)
def dB(m:uz)(n:ByteArray):Int:=if eP n then (if (getM m n).getD 0+1>1 then 5 else 0) else 6
def Bi(m:uz):aq:=[(1000000,.box (.vv [.mp 1000001])),(1000001,.map (pA D.str m))]
theorem v8(a b:ByteArray):gY (.str a) (.str b)=some (decide (a=b)):=rfl
theorem Ax(m:uz)(n:ByteArray):∃ i,findD (.str n) (pA D.str (kS m n)) 0=some (some (i,i64 ((getM m n).getD 0+1))):=by
 obtain⟨i,_,h1,_⟩:=mw (kd:=D.str) v8 (t:=n) (v:=(getM m n).getD 0+1) (m:=kS m n) (by unfold kS;rw[re,if_pos rfl]) 0;exact⟨0+i,h1⟩
theorem Ol(m:uz)(n:ByteArray)(hb:∀ v,getM m n=some v->0<=v/\v<1000000):sU Tryz.prog 162 [.d (.str n),.ptr 1000000 0] (Bi m) fun v h'=>v = .d (i64 (dB m n))/\h'=Bi (kS m n):=by
 intro σ Y s;refine cX mixed ao Tryz.func162 rfl (ft:=KJ) (args:=[.d (.str n),.ptr 1000000 0]) (show qC KJ Tryz.f162 2=true from by decide +kernel) ?_;conv=>whnf
 cases hg:getM m n with
 | none=>
  have g1:=qg (kd:=D.str) v8 hg 0;refine kY.mk _ g1 ?_;conv=>whnf
  refine af ?_;conv=>whnf
  refine kY.mk _ g1 ?_;conv=>whnf
  have zi:pA D.str m ++ [(D.str n,i64 (0+1))]=pA D.str (kS m n):=(by rw[show i64 (0+1)=D.int .i64 1 from rfl,sC (kd:=D.str) 1 hg,kS,hg];rfl);obtain⟨j,hj⟩:=Ax m n;refine ah (GC n) rfl rfl ?_;conv=>whnf
  cases hn:eP n with
  | false=>
   have he:dB m n=6:=by unfold dB;rw[hn];rfl
   rw[he];conv=>whnf
   refine cd [] [.d (i64 6)] (Bi (kS m n)) rfl ⟨rfl,congrArg (fun z=>some (Obj.map z)) zi,trivial⟩ rfl ⟨⟨rfl,rfl⟩,rfl⟩
  | true=>
   conv=>whnf
   refine kY.mk _ (show findD (.str n) (pA D.str m ++ [(D.str n,i64 (0+1))]) 0=some (some (j,i64 ((getM m n).getD 0+1))) from zi▸hj) ?_;conv=>whnf
   refine ag (fun h1=>?_) (fun h1=>?_)
   ·have he:dB m n=5:=by unfold dB;rw[hn,if_pos rfl,if_pos (of_decide_eq_true h1)]
    rw[he];conv=>whnf
    refine cd [] [.d (i64 5)] (Bi (kS m n)) rfl ⟨rfl,congrArg (fun z=>some (Obj.map z)) zi,trivial⟩ rfl ⟨⟨rfl,rfl⟩,rfl⟩
   ·have he:dB m n=0:=by unfold dB;rw[hn,if_pos rfl,if_neg (of_decide_eq_false h1)]
    rw[he];conv=>whnf
    refine cd [] [.d (i64 0)] (Bi (kS m n)) rfl ⟨rfl,congrArg (fun z=>some (Obj.map z)) zi,trivial⟩ rfl ⟨⟨rfl,rfl⟩,rfl⟩
 | some v=>
  obtain⟨i,_,g1,g3,_⟩:=mw (kd:=D.str) v8 hg 0;have:=hb v hg;refine kY.mk _ g1 ?_;conv=>whnf
  refine af ?_;conv=>whnf
  refine kY.mk _ g1 ?_;conv=>whnf
  have zi:(pA D.str m).set (0+i) (D.str n,i64 (v+1))=pA D.str (kS m n):=(by rw[Nat.zero_add];exact(g3 (v+1)).trans (by rw[kS,hg];rfl));obtain⟨j,hj⟩:=Ax m n;refine ah (GC n) rfl rfl ?_;conv=>whnf
  cases hn:eP n with
  | false=>
   have he:dB m n=6:=by unfold dB;rw[hn];rfl
   rw[he];conv=>whnf
   refine cd [] [.d (i64 6)] (Bi (kS m n)) rfl ⟨rfl,congrArg (fun z=>some (Obj.map z)) zi,trivial⟩ rfl ⟨⟨rfl,rfl⟩,rfl⟩
  | true=>
   conv=>whnf
   refine kY.mk _ (show findD (.str n) ((pA D.str m).set (0+i) (D.str n,i64 (v+1))) 0=some (some (j,i64 ((getM m n).getD 0+1))) from zi▸hj) ?_;conv=>whnf
   refine ag (fun h1=>?_) (fun h1=>?_)
   ·have he:dB m n=5:=by unfold dB;rw[hn,if_pos rfl,if_pos (of_decide_eq_true h1)]
    rw[he];conv=>whnf
    refine cd [] [.d (i64 5)] (Bi (kS m n)) rfl ⟨rfl,congrArg (fun z=>some (Obj.map z)) zi,trivial⟩ rfl ⟨⟨rfl,rfl⟩,rfl⟩
   ·have he:dB m n=0:=by unfold dB;rw[hn,if_pos rfl,if_neg (of_decide_eq_false h1)]
    rw[he];conv=>whnf
    refine cd [] [.d (i64 0)] (Bi (kS m n)) rfl ⟨rfl,congrArg (fun z=>some (Obj.map z)) zi,trivial⟩ rfl ⟨⟨rfl,rfl⟩,rfl⟩
def Au(m:Mark):Bool:=!bW 30000 m.jz
def oc(ns:uz)(m:Mark):Int:=
 if dB ns m.name=0 then (if Au m then 7 else fw m.cg) else dB ns m.name
def iv:uz->Int->List Mark->(Int×Int) ⊕ uz
 | ns,_,[]=>.inr ns
 | ns,i,m::r=>if oc ns m=0 then iv (kS ns m.name) (i+1) r else .inl (i,oc ns m)
def mW(ns:uz)(s:gC):Int:=if dB ns s.name=0 then iH s else dB ns s.name
def kJ:uz->Int->List gC->Int×Int×Int
 | _,_,[]=>(0,0,0)
 | ns,i,s::r=>if mW ns s=0 then kJ (kS ns s.name) (i+1) r else (2,i,mW ns s)
def cD(c:pE):Int×Int×Int:=
 if c.marks.length>8 then (1,0,3) else match iv [] 0 c.marks with
 | .inl (i,e)=>(1,i,e)
 | .inr ns=>if c.eR.length>4 then (2,0,3) else kJ ns 0 c.eR
def Aa(ns:uz)(k:Nat):Prop:=∀ n v,getM ns n=some v->0<=v/\v<=k
theorem Aa.inc{ns:uz}{k:Nat}(h:Aa ns k)(n:ByteArray):Aa (kS ns n) (k+1):=by
 intro u v hv;unfold kS at hv;rw[re]at hv;split at hv
 ·cases hv
  cases hg:getM ns n with
  | none=>simp only[Option.getD_none];omega
  | some w=>have:=h n w hg;simp only[Option.getD_some];omega
 ·have:=h u v hv;omega
set_option maxHeartbeats 4000000 in
theorem Oi(c:pE):aX Tryz.prog 147 [c.d] (.tup [i64 (cD c).1,i64 (cD c).2.1,i64 (cD c).2.2]):=by
 refine aB Tryz.func147 rfl (ft:=PF) 1 fun {σ} Y st=>?_;conv=>whnf
 refine ag (fun h0=>?_) (fun h0=>?_)
 ·have h0:c.marks.length>8:=by have:=of_decide_eq_true h0;simp at this;omega
  have he:cD c=(1,0,3):=by unfold cD;rw[if_pos h0]
  rw[he];conv=>whnf
  exact ae
 have h0:¬ c.marks.length>8:=by have:=of_decide_eq_false h0;simp at this;omega
 have he:cD c=match iv [] 0 c.marks with
  | .inl (i,e)=>(1,i,e)
  | .inr ns=>if c.eR.length>4 then (2,0,3) else kJ ns 0 c.eR:=by unfold cD;rw[if_neg h0]
 conv=>whnf
 refine ba (T:=tys) ao (by exact ai mixed ao (by decide +kernel)) c.marks (fun i (ns:uz)=>⟨[(1,.ptr 1 0),(6,.clo 162 [.ptr 5 0]),(18,.d (zr c.marks)),(19,.d (i64 (c.marks.map Mark.cells).length)),(20,.d (i64 i))],[(1,.box (.dd c.cells)),(5,.box (.vv [.mp 11])),(11,.map (pA D.str ns))],st⟩) (fun i r ns=>Aa ns i/\iv [] 0 c.marks=iv ns i r) [] aI ⟨fun n v h=>by simp[getM]at h,rfl⟩ ?_ ?_
 ·rintro i m r ns AQ hi hr ⟨zY,hk⟩
  rw[iv]at hk;conv=>whnf
  refine ag (fun _=>?_) (fun h=>absurd hi (by simpa using h));conv=>whnf
  refine au AQ ?_;conv=>whnf
  refine qG (Ol ns m.name (fun v hv=>by have:=zY _ v hv;omega)) [5,11] rfl ⟨_,_,rfl,rfl,_,_,rfl,rfl,rfl⟩ rfl ?_;conv=>whnf
  by_cases hf:dB ns m.name=0;case neg=>
   have hm:oc ns m=dB ns m.name:=by unfold oc;rw[if_neg hf]
   rw[hm,if_neg hf]at hk;have u7:cD c=(1,(i:Int),dB ns m.name):=by rw[he,hk]
   rw[u7,decide_eq_false hf];conv=>whnf
   refine ag (fun h=>absurd h (by simp[hf])) (fun _=>?_);conv=>whnf
   refine ag (fun _=>?_) (fun h=>absurd h (by simp[hf]));conv=>whnf
   exact ae
  rw[decide_eq_true hf];conv=>whnf
  refine ak (ds:=[i64 30000,g9 [m.jz]]) (LG 30000 [m.jz] (by omega) (by simp)) rfl 1 rfl ?_;have Mr:([m.jz].any fun p=>!bW 30000 p)=Au m:=by simp[Au]
  rw[Mr]
  cases Xx:Au m with
  | true=>
   have hm:oc ns m=7:=by unfold oc;rw[if_pos hf,Xx];rfl
   rw[hm,if_neg (by simp)]at hk;have u7:cD c=(1,(i:Int),7):=by rw[he,hk]
   rw[u7];conv=>whnf
   exact ae
  | false=>
   have hm:oc ns m=fw m.cg:=by unfold oc;rw[if_pos hf,Xx];rfl
   rw[hm]at hk;conv=>whnf
   refine ag (fun _=>?_) (fun h=>absurd h (by simp[hf]));conv=>whnf
   refine ah (Tb m.cg) rfl rfl ?_;conv=>whnf
   refine ag (fun hp=>?_) (fun hp=>?_)
   ·have hp:¬ fw m.cg=0:=by simpa using hp
    rw[if_neg hp]at hk;have u7:cD c=(1,(i:Int),fw m.cg):=by rw[he,hk]
    rw[u7];conv=>whnf
    exact ae
   ·have hp:fw m.cg=0:=by simpa using hp
    rw[if_pos hp]at hk;conv=>whnf
    refine af ?_;conv=>whnf
    exact⟨kS ns m.name,⟨zY.inc _,hk⟩,aI⟩
 ·rintro ns ⟨zY,hk⟩
  have u7:cD c=if c.eR.length>4 then (2,0,3) else kJ ns 0 c.eR:=by rw[he,hk,iv]
  conv=>whnf
  refine ag (fun h=>absurd h (by simp)) (fun _=>?_);conv=>whnf
  refine ag (fun h1=>?_) (fun h1=>?_)
  ·have h1:c.eR.length>4:=by have:=of_decide_eq_true h1;simp at this;omega
   rw[if_pos h1]at u7;rw[u7];conv=>whnf
   exact ae
  have h1:¬ c.eR.length>4:=by have:=of_decide_eq_false h1;simp at this;omega
  rw[if_neg h1]at u7;conv=>whnf
  refine ba (T:=tys) ao (by exact ai mixed ao (by decide +kernel)) c.eR (fun i (ns:uz)=>⟨[(1,.ptr 1 0),(6,.clo 162 [.ptr 5 0]),(52,.d (zI c.eR)),(53,.d (i64 (c.eR.map gC.cells).length)),(54,.d (i64 i))],[(1,.box (.dd c.cells)),(5,.box (.vv [.mp 11])),(11,.map (pA D.str ns))],st⟩) (fun i r ns=>Aa ns (8+i)/\cD c=kJ ns i r) ns aI ⟨fun n v h=>by have:=zY n v h;omega,u7⟩ ?_ ?_
  ·rintro i m r ns AQ hi hr ⟨zY,hk⟩
   rw[kJ]at hk;conv=>whnf
   refine ag (fun _=>?_) (fun h=>absurd hi (by simpa using h));conv=>whnf
   refine au AQ ?_;conv=>whnf
   refine qG (Ol ns m.name (fun v hv=>by have:=zY _ v hv;omega)) [5,11] rfl ⟨_,_,rfl,rfl,_,_,rfl,rfl,rfl⟩ rfl ?_;conv=>whnf
   by_cases hf:dB ns m.name=0;case neg=>
    have hm:mW ns m=dB ns m.name:=by unfold mW;rw[if_neg hf]
    rw[hm,if_neg hf]at hk;rw[hk,decide_eq_false hf];conv=>whnf
    refine ag (fun _=>?_) (fun h=>absurd h (by simp[hf]));conv=>whnf
    exact ae
   have hm:mW ns m=iH m:=by unfold mW;rw[if_pos hf]
   rw[hm]at hk;rw[decide_eq_true hf];conv=>whnf
   refine ah (Tc m) rfl rfl ?_;conv=>whnf
   refine ag (fun hp=>?_) (fun hp=>?_)
   ·have hp:¬ iH m=0:=by simpa using hp
    rw[if_neg hp]at hk;rw[hk];conv=>whnf
    exact ae
   ·have hp:iH m=0:=by simpa using hp
    rw[if_pos hp]at hk;conv=>whnf
    refine af ?_;conv=>whnf
    exact⟨kS ns m.name,⟨zY.inc _,hk⟩,aI⟩
  ·rintro ns ⟨zY,hk⟩
   rw[kJ]at hk;rw[hk];conv=>whnf
   refine ag (fun h=>absurd h (by simp)) (fun _=>?_);conv=>whnf
   exact ae
structure Kt(s:gC):Prop where
 len:3<=s.az.length/\s.az.length<=8
 mT:∀ p∈s.az,jZ 10000 p
 x : -500<=s.dS.x.lo/\s.dS.x.lo<=s.dS.x.hi/\s.dS.x.hi<=500/\s.dS.x.hi-s.dS.x.lo<=40
 y : -500<=s.dS.y.lo/\s.dS.y.lo<=s.dS.y.hi/\s.dS.y.hi<=500/\s.dS.y.hi-s.dS.y.lo<=40
 XT:∀ x∈kK s,iA s x=true
theorem H7{s:gC}(h:iH s=0):Kt s:=by
 unfold iH at h;split at h;case isFalse=>cases h
 rename_i h1;split at h
 ·cases h
 rename_i h2;split at h;case isFalse=>rename_i h3;exact absurd h h3
 rename_i h3;split at h;case isFalse=>cases h
 rename_i h4;rw[bq]at h1;unfold nL at h3;split at h3;case isFalse=>cases h3
 rename_i h5;split at h3;case isFalse=>cases h3
 rename_i h6;simp only[Bool.and_eq_true,bq]at h5 h6;refine⟨by omega,fun p hp=>?_,by omega,by omega,fun x hx=>List.all_eq_true.1 h4 x hx⟩;have:=List.any_eq_false.1 (by simpa using h2:(s.az.any fun p=>!bW 10000 p)=false) p hp;exact within_iff.1 (by simpa using this)
theorem mj{σ:Type}{l:List V}{h:aq}{s:σ}{Q:V->aq->σ->Prop}(n:Nat){ds:List D}(hv:bZ (dJ h n) l=some ds){d:D}(hd:gh (bL ds)=d)(hq:Q (.d d) [] s):pj l h s Q:=by
 subst hd;refine⟨fun cx L F a9 w hh hr=>?_⟩;have tr:=fY hh;exact⟨_,[],L,eC L F h w,hq,xC hh,bD.gh _ _ (D7 (iC tr (oi hh n) l a9 ds hv hr)),tr,fun _ _=>⟨rfl,rfl⟩⟩
def FC:Nat->Int->List Int
 | 0,_=>[]
 | k+1,v=>v::FC k (v+1)
theorem El:∀ (k:Nat) (v:Int),(FC k v).length=k
 | 0,_=>rfl
 | k+1,v=>by rw[FC,List.length_cons,El]
theorem yk:∀ {l:List gC} {ns:uz} {i:Int},(kJ ns i l).2.2=0 -> ∀ s∈l,iH s=0
 | [],_,_,_,s,hs=>by cases hs
 | a::r,ns,i,h,s,hs=>by
  rw[kJ]at h;split at h
  ·rename_i h1
   rcases List.mem_cons.1 hs with rfl|hs
   ·unfold mW at h1
    split at h1
    ·exact h1
    ·rename_i h2;exact absurd h1 h2
   ·exact yk h s hs
  ·rename_i h1;exact absurd h h1
theorem vA:∀ {l:List Mark} {ns:uz} {i j e:Int},iv ns i l = .inl (j,e)->e≠0
 | [],_,_,_,_,h=>by cases h
 | m::r,ns,i,j,e,h=>by
  rw[iv]at h;split at h
  ·exact vA h
  ·rename_i h1;cases h;exact h1
theorem xR:∀ {l:List Mark} {ns Nf:uz} {i:Int},iv ns i l = .inr Nf -> ∀ m∈l,jZ 30000 m.jz/\fw m.cg=0
 | [],_,_,_,_,m,hm=>by cases hm
 | a::r,ns,Nf,i,h,m,hm=>by
  rw[iv]at h;split at h
  ·rename_i h1
   rcases List.mem_cons.1 hm with rfl|hm
   ·unfold oc at h1
    split at h1
    ·split at h1
     ·cases h1
     ·rename_i h2
      unfold Au at h2;exact⟨within_iff.1 (by simpa using h2),h1⟩
    ·rename_i h2;exact absurd h1 h2
   ·exact xR h m hm
  ·cases h
structure NR(c:pE):Prop where
 marks:c.marks.length<=8
 eR:c.eR.length<=4
 mark:∀ m∈c.marks,jZ 30000 m.jz/\fw m.cg=0
 Z9:∀ s∈c.eR,Kt s
theorem fj{c:pE}(h:(cD c).2.2=0):NR c:=by
 unfold cD at h;split at h
 ·cases h
 rename_i h1;split at h
 ·rename_i i e he
  exact absurd h (vA he)
 ·rename_i ns zY
  split at h
  ·cases h
  rename_i h2;exact⟨by omega,by omega,xR zY,fun s hs=>H7 (yk h s hs)⟩
def rS(v:Pt):Pt:=⟨-v.y,v.x⟩
def wo:Nat->Pt->Pt
 | 0,v=>v
 | n+1,v=>wo n (rS v)
def dq(v:Pt):Nat:=if 0<=v.x/\0<v.y then 0 else if 0<v.x/\v.y<=0 then 1 else if v.x<=0/\v.y<0 then 2 else 3
def fJ(v:Pt):List Pt->Int->Int
 | [],n=>n
 | q::r,n=>fJ v r (if aR q v<=0 then n+1 else n)
def jX(v:Pt):Int:=fJ (wo (dq v) v) cj (8*dq v)-1
def NZ(v:Pt):Prop:=v.x≠0\/v.y≠0
theorem D9(v:Pt):dq v<=3:=by
 unfold dq;split
 ·omega
 ·split
  ·omega
  ·split<;>omega
theorem xW{v:Pt}(hz:NZ v)(h:¬ (0<=v.x/\0<v.y)):dq v=dq (rS v)+1/\NZ (rS v):=by
 unfold NZ at hz;constructor
 ·have e1:(rS v).x = -v.y:=rfl
  have e2:(rS v).y=v.x:=rfl;unfold dq;rw[e1,e2];repeat' split
  all_goals omega
 ·show -v.y≠0\/v.x≠0
  omega
set_option maxHeartbeats 1000000 in
theorem Th(v0:Pt)(hp:jZ 1000000 v0)(hz:NZ v0):aX Tryz.prog 159 [v0.d] (i64 (jX v0)):=by
 refine aB Tryz.func159 rfl (ft:=PS) 1 fun {σ} Y st=>?_;conv=>whnf
 refine bP (T:=tys) ao (by exact ai mixed ao (by decide +kernel)) (α:=Pt×Int)
  (fun x=>⟨[(1,.ptr 1 0),(2,.d (i64 x.2))],[(1,.box (.dd x.1.cells))],st⟩)
  (fun x=>jZ 1000000 x.1/\NZ x.1/\x.2+8*dq x.1=8*dq v0/\0<=x.2/\wo (dq x.1) x.1=wo (dq v0) v0) (fun x=>dq x.1) (v0,0) aI ⟨hp,hz,by simp,by simp,rfl⟩ ?_
 have hq3:=D9 v0;clear hp hz;rintro ⟨v,n⟩ ⟨hp,hz,hn,nZ,hk⟩;simp only at hp hz hn nZ hk;have hx:=hp.x;have hy:=hp.y;conv=>whnf
 refine ag (fun h1=>?_) (fun h1=>?_)
 ·have h1:v.x<0:=of_decide_eq_true h1
  have hc:¬ (0<=v.x/\0<v.y):=by omega
  obtain⟨MO,WR⟩:=xW hz hc;have ES:n+8+8*dq (rS v)=8*dq v0:=by omega
  rw[MO]at hk;conv=>whnf
  refine aA ((-v.y)) (by(try dsimp only);omega) (wrap_i64 (by(try dsimp only);omega)) ?_;conv=>whnf
  refine af ?_;conv=>whnf
  exact⟨(rS v,n+8),by simp only;omega,⟨⟨by show -1000000 <= -v.y /\ -v.y<=1000000;omega,hx⟩,WR,ES,by simp only;omega,hk⟩,aI⟩
 ·have h1:¬ v.x<0:=of_decide_eq_false h1
  conv=>whnf
  refine ag (fun h2=>?_) (fun h2=>?_)
  ·have h2:v.y<=0:=of_decide_eq_true h2
   have hc:¬ (0<=v.x/\0<v.y):=by omega
   obtain⟨MO,WR⟩:=xW hz hc;have ES:n+8+8*dq (rS v)=8*dq v0:=by omega
   rw[MO]at hk;conv=>whnf
   refine aA ((-v.y)) (by(try dsimp only);omega) (wrap_i64 (by(try dsimp only);omega)) ?_;conv=>whnf
   refine af ?_;conv=>whnf
   exact⟨(rS v,n+8),by simp only;omega,⟨⟨by show -1000000 <= -v.y /\ -v.y<=1000000;omega,hx⟩,WR,ES,by simp only;omega,hk⟩,aI⟩
  ·have h2:¬ v.y<=0:=of_decide_eq_false h2
   have RB:dq v=0:=by unfold dq;rw[if_pos (by omega)]
   rw[RB]at hk hn;have hk:v=wo (dq v0) v0:=hk;have hn:n=8*dq v0:=by omega
   have WD:jX v0=fJ v cj n-1:=by unfold jX;rw[<- hk,<- hn]
   rw[WD];conv=>whnf
   refine ah (S9) rfl rfl ?_;conv=>whnf
   refine ba (T:=tys) ao (by exact ai mixed ao (by decide +kernel)) cj (fun i (g:Int)=>⟨[(1,.ptr 1 0),(2,.d (i64 g)),(21,.d (.agg ow)),(22,.d (i64 i))],[(1,.box (.dd v.cells))],st⟩)
    (fun i r g=>fJ v cj n=fJ v r g/\0<=g/\g<=24+i) n aI ⟨rfl,by omega,by omega⟩ ?_ ?_
   ·rintro i q r g Wq hi hr ⟨hg,Y5,fP⟩
    rw[fJ]at hg;have XA:i<8:=hi;have NI:(cj[i]?).getD ⟨0,0⟩=q:=by rw[Wq];rfl
    have Ws:jZ 1000 q:=NI▸vV XA;conv=>whnf
    refine ag (fun _=>?_) (fun h=>absurd h (by simp;omega));conv=>whnf
    refine ag (fun _=>?_) (fun h2=>absurd h2 (by simp;omega));refine Vp XA rfl rfl ?_;rw[NI];conv=>whnf
    refine ak (ds:=[q.d,v.d]) (Ky q v (Ws.mono (by omega)) (hp.mono (by omega))) rfl 1 rfl ?_;conv=>whnf
    refine ag (fun h3=>?_) (fun h3=>?_)
    ·rw[if_pos (of_decide_eq_true h3)]at hg
     conv=>whnf
     refine af ?_;conv=>whnf
     conv=>whnf
     refine af ?_;conv=>whnf
     exact⟨g+1,⟨hg,by omega,by omega⟩,aI⟩
    ·rw[if_neg (of_decide_eq_false h3)]at hg
     conv=>whnf
     refine af ?_;conv=>whnf
     exact⟨g,⟨hg,by omega,by omega⟩,aI⟩
   ·rintro g ⟨hg,Y5,fP⟩
    have ZA:cj.length=8:=rfl;rw[fJ]at hg;rw[hg];conv=>whnf
    refine af ?_;conv=>whnf
    exact ae
def m9(l:List e9):Nat->List (Int×e9)
 | 0=>[]
 | k+1=>(match l[k]? with
  | some p=>[((k:Int),p)]
  | none=>[])++m9 l k
def Kv(x:Int×e9):List V×aq:=([.d (i64 x.1),.d (.agg x.2.cells)],[])
theorem Og(l:List e9):aX Tryz.prog 156 [ix l] (.clo 168 [.ref [ix l]]):=by
 refine aB Tryz.func156 rfl (ft:=PO) 1 fun {σ} Y st=>?_;conv=>whnf
 exact an 1 rfl ⟨⟨rfl,rfl⟩,rfl⟩
theorem FL(l:List e9)(hl:l.length<1000000):Yields Tryz.prog 168 [.ref [ix l]] ((m9 l l.length).map Kv):=by
 intro γ Y g0 Q fD;refine cX mixed ao Tryz.func168 rfl (ft:=KK) (args:=[.yld,.d (.ref [ix l])]) (show qC KK Tryz.f168 2=true from by decide +kernel) ?_;replace fD:=fD.np;generalize Y.np=Y at fD ⊢;conv=>whnf
 refine aA ((l.length:Int)-1) (by simp) (wrap_i64 (by omega)) ?_;conv=>whnf
 refine bP (T:=tys) ao (by exact ai mixed ao (by decide +kernel)) (α:=Nat×γ)
  (fun x=>⟨[(0,.yld),(1,.d (.ref [ix l])),(3,.d (i64 ((x.1:Int)-1)))],[],x.2⟩)
  (fun x=>x.1<=l.length/\iterate Y ((m9 l x.1).map Kv) x.2 Q) (fun x=>x.1) (l.length,g0) aI ⟨Nat.le_refl _,fD⟩ ?_
 clear fD g0;rintro ⟨k,g0⟩ ⟨hk,fD⟩;simp only at hk fD;conv=>whnf
 refine ag (fun h1=>?_) (fun h1=>?_)
 ·have h1:0<=(k:Int)-1:=of_decide_eq_true h1
  obtain⟨k,rfl⟩:∃ m,k=m+1:=⟨k-1,by omega⟩;obtain⟨p,hp⟩:∃ p,l[k]?=some p:=⟨l[k]'(by omega),by simp⟩;rw[m9,hp,List.map_append]at fD;have e1:(((k+1:Nat):Int)-1)=(k:Int):=by omega
  conv=>whnf
  refine bY p.cells ⟨h1,by
   show(l.map e9.cells)[((((k+1:Nat):Int)-1)).toNat]?=some p.cells;rw[e1,Int.toNat_natCast];simp[hp]⟩ ?_
  conv=>whnf
  refine uF (ds:=[i64 k,.agg p.cells]) fD (congrArg (fun z=>[V.d (i64 z),V.d (.agg p.cells)]) e1) rfl (fun s' G4=>?_) (fun s' DR=>?_)
  ·conv=>whnf
   refine aA (((k:Int)-1)) (by(try dsimp only);omega) (wrap_i64 (by(try dsimp only);omega)) ?_;conv=>whnf
   exact⟨(k,s'),by simp only;omega,⟨by simp only;omega,G4⟩,aI⟩
  ·conv=>whnf
   exact an 0 rfl ⟨rfl,DR⟩
 ·have h1:¬ 0<=(k:Int)-1:=of_decide_eq_false h1
  obtain rfl:k=0:=by omega
  conv=>whnf
  exact an 0 rfl ⟨rfl,fD⟩
def BS:Mark:=⟨ByteArray.empty,⟨0,0⟩,[]⟩
def ga(c:pE)(day k:Int):Int:=if (cD c).2.2=0 then (if a6 day 0 40000 then (if a6 k 0 ((c.marks.length:Int)-1) then 0 else 4) else 7) else (cD c).2.2
def gl(c:pE)(day k:Int):Mark:=if ga c day k=0 then (c.marks[k.toNat]?).getD BS else BS
def uP(day:Int):List (Int×e9)->Int
 | []=>0
 | x::r=>if x.2.day<=day then x.2.kl else uP day r
def oa(c:pE)(day k:Int):Int:=if ga c day k=0 then uP day (m9 (gl c day k).cg (gl c day k).cg.length) else 0
set_option maxHeartbeats 2000000 in
theorem Om(c:pE)(day k:Int):aX Tryz.prog 142 [c.d,i64 day,i64 k] (.tup [(gl c day k).d,i64 (oa c day k),i64 (ga c day k)]):=by
 refine aB Tryz.func142 rfl (ft:=PB) 3 fun {σ} Y st=>?_;conv=>whnf
 refine ah (Oi c) rfl rfl ?_;conv=>whnf
 by_cases h0:(cD c).2.2=0;case neg=>
  have he:ga c day k=(cD c).2.2:=by unfold ga;rw[if_neg h0]
  have hm:gl c day k=BS:=by unfold gl;rw[he,if_neg h0]
  have hc:oa c day k=0:=by unfold oa;rw[he,if_neg h0]
  rw[he,hm,hc];refine ag (fun _=>?_) (fun h1=>absurd h1 (by simp[h0]));conv=>whnf
  exact mj 0 rfl rfl ⟨⟨rfl,rfl⟩,rfl⟩
 have hR:=fj h0;have KW:=hR.marks;refine ag (fun h1=>absurd h1 (by simp[h0])) (fun _=>?_);rw[h0];conv=>whnf
 refine ak (oR 0 40000 day) rfl 1 rfl ?_;by_cases h1:a6 day 0 40000=true;case neg=>
  have he:ga c day k=7:=by unfold ga;rw[if_pos h0,if_neg h1]
  have hm:gl c day k=BS:=by unfold gl;rw[he];rfl
  have hc:oa c day k=0:=by unfold oa;rw[he];rfl
  have h1:a6 day 0 40000=false:=by simpa using h1
  rw[he,hm,hc,h1];conv=>whnf
  exact mj 0 rfl rfl ⟨⟨rfl,rfl⟩,rfl⟩
 rw[h1];conv=>whnf
 refine aA ((c.marks.length:Int)-1) (by simp) (wrap_i64 (by omega)) ?_;conv=>whnf
 refine ak (oR 0 ((c.marks.length:Int)-1) k) rfl 1 rfl ?_;by_cases h2:a6 k 0 ((c.marks.length:Int)-1)=true;case neg=>
  have he:ga c day k=4:=by unfold ga;rw[if_pos h0,if_pos h1,if_neg h2]
  have hm:gl c day k=BS:=by unfold gl;rw[he];rfl
  have hc:oa c day k=0:=by unfold oa;rw[he];rfl
  have h2:a6 k 0 ((c.marks.length:Int)-1)=false:=by simpa using h2
  rw[he,hm,hc,h2];conv=>whnf
  exact mj 0 rfl rfl ⟨⟨rfl,rfl⟩,rfl⟩
 have he:ga c day k=0:=by unfold ga;rw[if_pos h0,if_pos h1,if_pos h2]
 have Xk:=h2;rw[bq]at Xk;obtain⟨m,hm⟩:∃ m,c.marks[k.toNat]?=some m:=⟨c.marks[k.toNat]'(by omega),by simp⟩;have SC:gl c day k=m:=by unfold gl;rw[if_pos he,hm];rfl
 have Zo:oa c day k=uP day (m9 m.cg m.cg.length):=by unfold oa;rw[if_pos he,SC]
 have nr:m.cg.length<=4:=by
  have:=(hR.mark m (List.mem_of_getElem? hm)).2;unfold fw at this;split at this
  ·rename_i h3;rw[bq]at h3;omega
  ·cases this
 rw[he,SC,Zo,h2];conv=>whnf
 refine bY m.cells ⟨Xk.1,by simp[hm]⟩ ?_;conv=>whnf
 refine ah (Og m.cg) rfl rfl ?_;conv=>whnf
 refine ji ao (by exact ai mixed ao (by decide +kernel)) (by exact ai mixed ao (by decide +kernel)) rfl 1500000 1600000 [3,4,6,7,8,24,33] (FL m.cg (by omega))
  (fun(_:Unit)=>([(1500000,.box (.dd c.cells)),(1500001,.box (.dd [i64 day])),(1500002,.box (.dd m.cells)),(1500003,.box (.dd [i64 0])),(1500004,.box (.dd [i64 0])),(1500005,.arr 1 (.dd [[i64 day]])),(1500006,.arr 1 (.dd [[i64 k]]))],st))
  (fun rest _=>uP day (m9 m.cg m.cg.length)=uP day rest) () rfl rfl rfl rfl ?_ ?_
 ·rintro ⟨i,x⟩ rest _ hk Q FO Nz
  refine⟨⟨rfl,rfl⟩,?_⟩;replace hk:uP day (m9 m.cg m.cg.length)=_:=hk;conv at hk=>rhs;rw[uP]
  conv=>whnf
  refine ag (fun h3=>?_) (fun h3=>?_)
  ·rw[if_pos (of_decide_eq_true h3)]at hk
   conv=>whnf
   refine⟨[(1500000,.box (.dd c.cells)),(1500001,.box (.dd [i64 day])),(1500002,.box (.dd m.cells)),(1500003,.box (.dd [i64 x.kl])),(1500004,.box (.dd [i64 0])),(1500005,.arr 1 (.dd [[i64 day]])),(1500006,.arr 1 (.dd [[i64 k]]))],st,aI,rfl,Nz _ _ _ ?_⟩;conv=>whnf
   rw[hk];exact ae
  ·rw[if_neg (of_decide_eq_false h3)]at hk
   conv=>whnf
   exact⟨(),aI,rfl,FO _ hk⟩
 ·rintro _ hk
  replace hk:uP day (m9 m.cg m.cg.length)=_:=hk;conv at hk=>rhs;rw[uP]
  rw[hk];conv=>whnf
  exact ae
theorem S5(c:pE)(day k:Int):aX Tryz.prog 110 [c.d,i64 day,i64 k] (.tup [i64 (oa c day k),i64 (ga c day k)]):=by
 refine aB Tryz.func110 rfl (ft:=Pa) 3 fun {σ} Y st=>?_;conv=>whnf
 refine ah (Om c day k) rfl rfl ?_;conv=>whnf
 exact an 1 rfl ⟨⟨rfl,rfl⟩,rfl⟩
def nz(c:pE)(day k:Int):Int:=if ga c day k=0 then (if oa c day k=0 then 9 else 0) else ga c day k
theorem Tg(c:pE)(day k:Int):aX Tryz.prog 157 [c.d,i64 day,i64 k] (.tup [(gl c day k).d,i64 (nz c day k)]):=by
 refine aB Tryz.func157 rfl (ft:=PQ) 3 fun {σ} Y st=>?_;conv=>whnf
 refine ah (Om c day k) rfl rfl ?_;conv=>whnf
 by_cases h0:ga c day k=0;case neg=>
  have he:nz c day k=ga c day k:=by unfold nz;rw[if_neg h0]
  rw[he,decide_eq_false h0];conv=>whnf
  exact ae
 have he:nz c day k=if oa c day k=0 then 9 else 0:=by unfold nz;rw[if_pos h0]
 rw[he,decide_eq_true h0];conv=>whnf
 refine ag (fun h1=>?_) (fun h1=>?_)
 ·rw[if_pos (of_decide_eq_true h1)]
  conv=>whnf
  exact ae
 ·rw[if_neg (of_decide_eq_false h1),h0]
  conv=>whnf
  exact ae
theorem zq{c:pE}{day k:Int}(h:ga c day k=0):NR c/\gl c day k∈c.marks:=by
 unfold ga at h;split at h;case isFalse=>rename_i h1;exact absurd h h1
 rename_i h1;split at h;case isFalse=>cases h
 rename_i h2;split at h;case isFalse=>cases h
 rename_i h3;have he:ga c day k=0:=by unfold ga;rw[if_pos h1,if_pos h2,if_pos h3]
 rw[bq]at h3;obtain⟨m,hm⟩:∃ m,c.marks[k.toNat]?=some m:=⟨c.marks[k.toNat]'(by omega),by simp⟩;have:gl c day k=m:=by unfold gl;rw[if_pos he,hm];rfl
 rw[this];exact⟨fj h1,List.mem_of_getElem? hm⟩
theorem wc{c:pE}{day k:Int}(h:nz c day k=0):ga c day k=0:=by
 unfold nz at h;split at h
 ·assumption
 ·exact h
def rI(a b:Pt):Bool:=decide (a.x=b.x)&&(decide (a.y=b.y)&&true)
def iI(c:pE)(day k:Int)(p:Pt):Int:=
 if nz c day k=0 then (if bW 30000 p then (if rI (gl c day k).jz p then 8 else 0) else 7) else nz c day k
def eG(c:pE)(day k:Int)(p:Pt):Int:=if iI c day k p=0 then jX ((gl c day k).jz.sub p) else 0
set_option maxHeartbeats 1000000 in
theorem S6(c:pE)(day k:Int)(p:Pt):aX Tryz.prog 143 [c.d,i64 day,i64 k,p.d] (.tup [i64 (eG c day k p),i64 (iI c day k p)]):=by
 refine aB Tryz.func143 rfl (ft:=PC) 4 fun {σ} Y st=>?_;conv=>whnf
 refine ah (Tg c day k) rfl rfl ?_;conv=>whnf
 by_cases h0:nz c day k=0;case neg=>
  have he:iI c day k p=nz c day k:=by unfold iI;rw[if_neg h0]
  have hv:eG c day k p=0:=by unfold eG;rw[he,if_neg h0]
  rw[he,hv];refine ag (fun _=>?_) (fun h1=>absurd h1 (by simp[h0]));conv=>whnf
  exact ae
 obtain⟨hR,gF⟩:=zq (wc h0);have Rq:=(hR.mark _ gF).1;have he:iI c day k p=if bW 30000 p then (if rI (gl c day k).jz p then 8 else 0) else 7:=by unfold iI;rw[if_pos h0]
 refine ag (fun h1=>absurd h1 (by simp[h0])) (fun _=>?_);conv=>whnf
 refine ak (ds:=[i64 30000,g9 [p]]) (LG 30000 [p] (by omega) (by simp)) rfl 1 rfl ?_;have Mr:([p].any fun p=>!bW 30000 p) = !bW 30000 p:=by simp
 rw[Mr]
 cases hw:bW 30000 p with
 | false=>
  rw[hw,if_neg (by simp)]at he;have hv:eG c day k p=0:=by unfold eG;rw[he];rfl
  rw[he,hv];conv=>whnf
  exact ae
 | true=>
  rw[hw,if_pos rfl]at he;have hp:=within_iff.1 hw;generalize hM:gl c day k=m at *
  cases hs:rI m.jz p with
  | true=>
   rw[hs,if_pos rfl]at he;have hv:eG c day k p=0:=by unfold eG;rw[he];rfl
   rw[he,hv];conv=>whnf
   refine ag (fun _=>?_) (fun h=>absurd (hs.symm.trans h) (by simp));conv=>whnf
   exact ae
  | false=>
   rw[hs,if_neg (by simp)]at he;have hv:eG c day k p=jX (m.jz.sub p):=by unfold eG;rw[he,hM];rfl
   have IC:NZ (m.jz.sub p):=by
    show m.jz.x-p.x≠0\/m.jz.y-p.y≠0;unfold rI at hs;simp at hs;omega
   rw[he,hv];conv=>whnf
   refine ag (fun h=>absurd (hs.symm.trans h) (by simp)) (fun _=>?_);conv=>whnf
   refine ak (ds:=[p.d,m.jz.d]) (LH p m.jz (hp.mono (by omega)) (Rq.mono (by omega))) rfl 1 rfl ?_;conv=>whnf
   refine ak (ds:=[(m.jz.sub p).d]) (Th (m.jz.sub p) ((Rq.sub hp).mono (by omega)) IC) rfl 1 rfl ?_;conv=>whnf
   exact ae
end Go.PX
