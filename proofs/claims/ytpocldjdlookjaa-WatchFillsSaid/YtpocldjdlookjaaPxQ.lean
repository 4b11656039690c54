import Derived.Test.YtpocldjdlookjaaPxP
import Derived.Test.YtpocldjdlookjaaPxK
set_option linter.all false
set_option maxRecDepth 10000
namespace Go.PX
theorem Wk.NJ{σ:Type}{e:Env}{h:av}{s:σ}(n:Nat)(ids:List Nat):Wk (⟨e,h,s⟩:St σ) ⟨cn (eB (fm (aP ids h) n)) e,cn (jo (fm (aP ids h) n)) (kJ h ids),s⟩:=by
 intro cx r m L F a w hg;obtain⟨F1,h1,h2,_⟩:=hg.MZ n ids;exact⟨L,F1,h1,h2⟩
theorem qJ{g:Nat->Option DO}{i sz o n:Nat}(h:g i=none):eB g (.sl i sz o n) = .sl i sz o n:=by
 simp only[eB,eP,h]
theorem rl{g:Nat->Option DO}{B sz:Nat}:∀ {rows:List Rw} {i:Nat},(∀ x,B<=x->g x=none)->(∀ K n,Rw.kL K n∈rows->g K=none)->gp g (cu B sz i rows)=cu B sz i rows
 | [],i,_,_=>rfl
 | .bw l::r,i,hB,hK=>by
  have ih:=rl (sz:=sz) (rows:=r) (i:=i+1) hB fun K n hm=>hK K n (by simp[hm]);show [eB g (.sl (B+i) sz 0 l.length)]::gp g (cu B sz (i+1) r)=_;rw[ih,qJ (hB _ (by omega))];rfl
 | .kL K n::r,i,hB,hK=>by
  have ih:=rl (sz:=sz) (rows:=r) (i:=i+1) hB fun K n hm=>hK K n (by simp[hm]);show [eB g (.sl K sz 0 n)]::gp g (cu B sz (i+1) r)=_;rw[ih,qJ (hK K n (by simp))];rfl
theorem Aa{B sz:Nat}:∀ {rows:List Rw} {i:Nat},rows ≠ []->vP (cu B sz i rows)=none
 | [],i,h=>absurd rfl h
 | .bw l::r,i,_=>rfl
 | .kL K n::r,i,_=>rfl
theorem jw{σ:Type}{h:av}{s:σ}{Q:V->av->σ->Prop}{B sz:Nat}{ls:List (List (List D))}(id n':Nat)(b:D){es:List (List D)}(k KK:Nat){l:List (List D)}(hB:3000000<=B)(hn:ls.length<=64)(HU:k<ls.length)(JM:KK<1000000)
  (dZ:id<3000000) (SG:id≠1000000) (Ll:id≠KK) (hI:get h id=some (.arr 1 (.dd es))) (wa:n'=es.length)
  (hO:get h 1000000=some (bO B sz ((ls.map Rw.bw).set k (.kL KK l.length)))) (hK:get h KK=some (.arr sz (.dd l))) (hT:∀ j,3000000<=j->get h j=get (aD B sz 0 ((ls.map Rw.bw).set k (.kL KK l.length))) j)
  (hq:Q (uN (inj [.vs es,b])) ((1000000,bO 2000000 sz ((ls.set k l).map Rw.bw))::aD 2000000 sz 0 ((ls.set k l).map Rw.bw)) s):pJ [.sl id 1 0 n',.d b] h s Q:=by
 obtain⟨rows,jm⟩:∃ rows,rows=(ls.map Rw.bw).set k (.kL KK l.length):=⟨_,rfl⟩;rw[<- jm]at hO hT;have eA:rows ≠ []:=fun e=>by
  have:rows.length=ls.length:=by rw[jm];simp
  rw[e]at this;simp at this;omega
 have Pb:∀ K n,Rw.kL K n∈rows->K=KK:=fun K n hm=>by
  rw[jm]at hm;obtain⟨j,hj⟩:=List.getElem?_of_mem hm;rw[List.getElem?_set]at hj;split at hj
  ·split at hj
   ·cases hj;rfl
   ·cases hj
  ·rw[List.getElem?_map]at hj
   cases hb:ls[j]? with
   | none=>rw[hb]at hj;cases hj
   | some x=>rw[hb]at hj;cases hj
 have oz:∀ x,x≠id->fm (aP [id] h) 1 x=none:=fun x hx=>by
  have:get (aP [id] h) x=none:=by
   rw[nV];rw[if_neg];intro hm;have:=mc.1 hm;rw[List.mem_singleton]at this;exact hx this
  rw[fm,this]
 have Ex:get (aP [id] h) id=some (.arr 1 (.dd es)):=by
  rw[nV,if_pos (mc.2 (by simp)),hI]
 have hv:eP (fm (aP [id] h) 1) (.sl id 1 0 n')=some (.vs es):=bI Ex wa;refine nO (l':=inj [.vs es,b]) (h':=(1000000,bO B sz rows)::(KK,.arr sz (.dd l))::aD B sz 0 rows) ((Wk.NJ 1 [id]).trans (Wk.Du (fun y v hy=>?_) (fun y o hy=>?_))) rfl rfl ?_
 ·rw[bl]
  have hy:get [(0,V.d (.vs es)),(1,.d b)] y=some v:=hy;show(get [(0,V.sl id 1 0 n'),(1,.d b)] y).map _=some v;rw[aF]at hy ⊢;split at hy
  ·rename_i e
   rw[if_pos e];cases hy;simp only[Option.map_some,eB,hv]
  ·rename_i e
   rw[if_neg e];rw[aF]at hy ⊢;split at hy
   ·rename_i e2
    rw[if_pos e2];cases hy;rfl
   ·cases hy
 ·rw[bl,gR]
  rw[aF]at hy;split at hy
  ·rename_i e
   subst e;cases hy;rw[if_neg (by simp;omega),hO];show some (jo _ (.arr 1 (.vv (cu B sz 0 rows))))=some (bO B sz rows);rw[jo,rl (fun x hx=>oz x (by omega)) (fun K n hm=>oz K (by rw[Pb K n hm];exact fun e=>Ll e.symm)),Aa eA];rfl
  ·rename_i FY
   rw[aF]at hy;split at hy
   ·rename_i e
    subst e;cases hy;rw[if_neg (by simp;exact fun e=>Ll e.symm),hK];rfl
   ·rename_i FZ
    have T5:B<=y:=Nat.le_of_not_lt fun eC=>by rw[ku eC]at hy;cases hy
    rw[if_neg (by simp;omega),hT y (by omega),hy];rw[cz]at hy;split at hy
    ·split at hy
     ·cases hy;rfl
     ·cases hy
    ·cases hy
 ·refine tg (B:=B) (sz:=sz) (ls:=ls) [.vs es,b] k KK (l:=l) hB hn rfl HU JM ?_ ?_ ?_ hq
  ·rw[<- jm];rfl
  ·rw[aF,if_neg (by intro e;subst e;exact absurd JM (by omega)),aF,if_pos rfl]
  ·intro j hj
   rw[<- jm,aF,if_neg (by omega),aF,if_neg (by omega)]
end Go.PX
namespace Go.PX
open Go.RowKit
def Jn(ev:List OT)(b:Nat):Bool:=(ev.drop b).all fun t=>t.gZ.all fun i=>Nat.ble b i
theorem C6{ev:List OT}{b:Nat}(h:Jn ev b=true){j:Nat}{t:OT}(hj:b<=j)(ht:ev[j]?=some t):∀ i∈t.gZ,b<=i:=by
 have h1:=List.all_eq_true.1 h t (by
  refine List.mem_of_getElem? (i:=j-b) ?_;rw[List.getElem?_drop,show b+(j-b)=j by omega];exact ht)
 exact fun i hi=>Nat.le_of_ble_eq_true (List.all_eq_true.1 h1 i hi)
def qO(b n:Nat):List Bool:=List.replicate b true++List.replicate n false
theorem FE(b n:Nat):xM (qO b n)=n:=by
 unfold qO;have h1:∀ n,xM (List.replicate n false)=n:=by
  intro n
  induction n with
  | zero=>rfl
  | succ n ih=>rw[List.replicate_succ,xM,ih]
 induction b with
 | zero=>rw[List.replicate_zero,List.nil_append];exact h1 n
 | succ b ih=>rw[List.replicate_succ,List.cons_append,xM];exact ih
section
variable {P : Program} {σ : Type} {cx : Cx σ} {r : Option Nat} {m : List Nat}
theorem zA{ops:Array Oper}{b:Nat}{aT:Array Bool}(hb:b<=ops.size)(h:vJ ops b [] aT):aT=(qO b (ops.size-b)).toArray:=by
 have hl:(qO b (ops.size-b)).length=ops.size:=by unfold qO;simp;omega
 apply Array.ext
 ·rw[h.size];simp[hl]
 ·intro i h1 h2
  have h3:=h.mem i;rw[Array.getD_eq_getD_getElem?,Array.getElem?_eq_getElem h1]at h3;have h4:aT[i]=false↔b<=i/\i<ops.size:=by
   constructor
   ·intro e
    rcases h3.2 (by simpa using e) with⟨q,hq,_⟩|h5
    ·cases hq
    ·exact h5
   ·intro e
    simpa using h3.1 (.inr e)
  have hs:i<ops.size:=by rw[<- h.size];exact h1
  have h5:(qO b (ops.size-b)).toArray[i]=decide (i<b):=by
   simp only[List.getElem_toArray];unfold qO;rw[List.getElem_append];split
   ·rename_i hh
    have hh:i<b:=by simpa using hh
    simp[hh]
   ·rename_i hh
    have hh:¬ i<b:=by simpa using hh
    simp[hh]
  rw[h5];by_cases HS:i<b
  ·have:¬ aT[i]=false:=fun e=>by have:=h4.1 e;omega
   simp[HS,Bool.not_eq_false]at this ⊢;exact this
  ·rw[h4.2 ⟨by omega,hs⟩]
   simp[HS]
theorem Be(sr:oO P cx){ops:Array Oper}{rt:RT}(kX:gn ops.toList rt=true){b:Nat}(DB:b<=ops.size)(qe:Jn rt.ev b=true){Q:Exit->Act->World->Prop}{f':Fs}{s:σ}{n0:Nat}{F0:Nat->Nat}{w0:World}{k:Nat}
  (hd:∀ o∈ops.toList,∀ d,o.dst=some d->d<n0)
  (CM:∀ a w L F (st:St σ) aT,bW st=f'->st.s=s->Good cx r m L F st a w->Tr F0 w0 F w->a.tmps.size=n0->vJ ops b [] aT->wpAnyIn (fr r) 0 P .any ops Q k aT a w) :
  ∀ (n:Nat) {l:List Rec} {aT:Array Bool} {st:St σ} {a:Act} {w:World} {L:Loc} {F:Nat->Nat},l.length=n->(∀ q∈l,q.idx<b) ->
  Rs P ops rt.ev l->Good cx r m L F st a w->st.s=s->Tr F0 w0 F w->a.tmps.size=n0->(∀ q∈l,∀ id∈bB q.ws,ot (bW st) id)->mJ l (bW st) f'->vJ ops b l aT ->
  wpAnyIn (fr r) 0 P .any ops Q (k+n) aT a w:=by
 simp only[gn,Bool.and_eq_true]at kX;obtain⟨⟨⟨⟨hlen,gz⟩,jd⟩,je⟩,nh⟩:=kX;have hlen:=Nat.eq_of_beq_eq_true hlen;intro n
 induction n with
 | zero=>
  intro l aT st a w L F ni yC nX hg hs tr hn hu bA ht;have hl:l = []:=List.length_eq_zero_iff.1 ni;subst hl;have bA:f'=bW st:=bA;exact CM a w L F st aT bA.symm hs hg tr hn ht
 | succ n ih=>
  intro l aT st a w L F ni yC nX hg hs tr hn hu bA ht;have o9:∃ q l',l=q::l':=by
   cases l with
   | nil=>simp at ni
   | cons q l'=>exact⟨q,l',rfl⟩
  refine⟨fun hr=>?_,fun j hj=>?_⟩
  ·exfalso
   obtain⟨q,l',rfl⟩:=o9;have LM:=yC q (List.mem_cons_self ..);have hi:=(ht.mem q.idx).1 (.inl ⟨q,List.mem_cons_self ..,rfl⟩);have e6:q.idx∈Region.ready .any ops aT:=by
    rw[mem_ready];refine⟨hi,ops[q.idx]'(by omega),Array.getElem?_eq_getElem (by omega),fun e he hb=>?_⟩;have eC:=eO gz q.idx (ops[q.idx]'(by omega)) (by simp) e he hb;refine iz (by rw[ht.size];omega) fun hf=>?_;rcases (ht.mem e.on).2 hf with⟨q',BJ,HP⟩|⟨h1,_⟩
    ·rcases List.mem_cons.1 BJ with h|h
     ·subst h;omega
     ·have:=((List.pairwise_cons.1 nX.pw).1 _ h).lt
      omega
    ·omega
   rw[hr]at e6;cases e6
  ·obtain⟨EF,oj,sU,gl⟩:=mem_ready.1 hj
   have HT:j<ops.size:=(Array.getElem?_eq_some_iff.1 sU).1;have LL:∃ q∈l,q.idx=j:=by
    rcases (ht.mem j).2 EF with h|⟨h,_⟩
    ·exact h
    ·exfalso
     obtain⟨q,l',rfl⟩:=o9;have LM:=yC q (List.mem_cons_self ..);have Az:rt.ev[j]?=some (rt.ev[j]'(by rw[<- hlen];simpa using HT)):=List.getElem?_eq_getElem _;have h1:=lb ht.closed gz jd hlen (j+1) j oj _ (by omega) sU Az gl q.idx (by omega) (fun hm=>by have:=C6 qe h Az _ hm;omega);have h2:=fU h1;rw[(ht.mem q.idx).1 (.inl ⟨q,List.mem_cons_self ..,rfl⟩)]at h2;cases h2
   obtain⟨q,hq,rfl⟩:=LL;obtain⟨l1,l2,rfl⟩:=List.append_of_mem hq;have mR:=List.pairwise_append.1 nX.pw;obtain⟨t,LO,LN⟩:=nX.gZ q hq;have dB:∀ p∈l1,Cf p q:=by
    intro p hp;have FW:=mR.2.2 p hp q (List.mem_cons_self ..);refine FW.free (Classical.byContradiction fun wa=>?_);rw[LN]at wa;have:=lb ht.closed gz jd hlen (q.idx+1) q.idx oj t (by omega) sU LO gl p.idx FW.lt wa;have h3:=fU this;rw[(ht.mem p.idx).1 (.inl ⟨p,List.mem_append_left _ hp,rfl⟩)]at h3;cases h3
   obtain⟨gY,fe⟩:=mJ.front dB bA;have I4:=nX.news q hq;have rS:bW (aK st q.ws)=bz (bW st) q.ws:=sP q.ws st I4 (hu q hq);refine nX.snd q hq cx sr r m L F st a w gY.1 gY.2 hg (fun o ho k hk=>?_) _ _ fun a' L' F' w' cU dY lL=>?_
   ·rw[hn]
    exact hd o (by simpa using Array.mem_of_getElem? ho) k hk
   ·have e6:∀ p,p∈l1++l2->p∈l1++q::l2:=fun p hp=>by
     rcases List.mem_append.1 hp with h|h
     ·exact List.mem_append_left _ h
     ·exact List.mem_append_right _ (List.mem_cons_of_mem _ h)
    have eA:∀ p∈l1++l2,p.idx≠q.idx:=by
     intro p hp;rcases List.mem_append.1 hp with h|h
     ·have:=(mR.2.2 p h q (List.mem_cons_self ..)).lt;omega
     ·have:=((List.pairwise_cons.1 mR.2.1).1 p h).lt;omega
    refine ih (l:=l1++l2) (by simp at ni ⊢;omega) (fun p hp=>yC p (e6 p hp)) ⟨?_,fun p hp=>nX.snd p (e6 p hp),fun p hp=>nX.news p (e6 p hp),fun p hp=>nX.gZ p (e6 p hp)⟩ dY ((cT _ _).trans hs) (Tr.trans tr lL) (cU.trans hn) ?_ (by rw[rS];exact fe) ⟨fun i=>?_,?_,?_⟩
    ·exact List.pairwise_append.2 ⟨mR.1,(List.pairwise_cons.1 mR.2.1).2,fun x hx y hy=>mR.2.2 x hx y (List.mem_cons_of_mem _ hy)⟩
    ·intro p hp id dZ
     rw[rS];refine(hu p (e6 p hp) id dZ).bz ?_ ?_
     ·rcases List.mem_append.1 hp with h|h
      ·exact(dB p h).l.news id dZ
      ·exact((List.pairwise_cons.1 mR.2.1).1 p h).names id dZ
     ·rcases List.mem_append.1 hp with h|h
      ·exact(dB p h).l.y5 id (fI dZ)
      ·exact((List.pairwise_cons.1 mR.2.1).1 p h).y5 id dZ
    ·by_cases jN:q.idx=i
     ·subst jN
      have eC:q.idx<aT.size:=by rw[ht.size];exact(Array.getElem?_eq_some_iff.1 sU).1
      have LM:=yC q hq;constructor
      ·rintro (⟨p,hp,he⟩|⟨h,_⟩)
       ·exact absurd he (eA p hp)
       ·omega
      ·intro h;simp[eC]at h
     ·rw[getD_set_ne true jN,<- ht.mem i]
      constructor
      ·rintro (⟨p,hp,he⟩|h)
       ·exact .inl ⟨p,e6 p hp,he⟩
       ·exact .inr h
      ·rintro (⟨p,hp,he⟩|h)
       ·refine .inl ⟨p,?_,he⟩
        rcases List.mem_append.1 hp with h|h
        ·exact List.mem_append_left _ h
        ·rcases List.mem_cons.1 h with rfl|h
         ·exact absurd he jN
         ·exact List.mem_append_right _ h
       ·exact .inr h
    ·rw[Array.size_setIfInBounds];exact ht.size
    ·intro k o' hk xp e he hb
     by_cases yB:q.idx=k
     ·subst yB
      rw[sU]at xp;cases xp;exact getD_set_true (gl e he hb)
     ·rw[getD_set_ne false yB]at hk
      exact getD_set_true (ht.closed k o' hk xp e he hb)
end
section
variable {P : Program} {T : dM} {ft : FT} {σ : Type} {Y : Hd σ}
theorem lQ(hm:P.follows .mixedOrders=true)(hT:bj P T)(rt:RT)(b:Nat)(iH:List (List Nat)){id:Nat}{ops:Array Oper}(kX:gn ops.toList rt=true)(qe:(Nat.ble b ops.toList.length&&Jn rt.ev b)=true)(Nd:(mn 0 ops.toList&&mY ops.toList iH)=true){e:Env}{h:av}{s:σ}{K:ew->St σ->Prop}
  (hk:pN rt.made e h fun e h=>Bf P T rt.made ops.toList ((ops.toList.zip rt.ev).take b) [] e h fun e h=>xP P T Y ops.toList iH (iH.length-b) (qO b (iH.length-b)) e h s fun e h s=>dx (aP ft.ks e) fun e=>K .normal ⟨e,h,s⟩):pI P ft Y id ops ⟨e,h,s⟩ K:=by
 refine⟨fun cx hY r m L F a w hg hc=>?_⟩;rw[Bool.and_eq_true]at qe;have DB:b<=ops.size:=by have:=Nat.le_of_ble_eq_true qe.1;simpa using this
 rw[Bool.and_eq_true]at Nd;have BB:ops.size=iH.length:=by
  obtain⟨BB,_⟩:=kp Nd.2;simpa using BB
 have yJ:=kX;simp only[gn,Bool.and_eq_true]at yJ;obtain⟨⟨⟨⟨hlen,gz⟩,jd⟩,je⟩,nh⟩:=yJ;have hlen:=Nat.eq_of_beq_eq_true hlen;have hd:=nD hc;obtain⟨e1,h1,L1,hk,db,hu⟩:=sF rt.made (fun d Er=>by
  have:=List.all_eq_true.1 nh d Er;exact Nat.le_of_ble_eq_true this) hg hk (fun _=>False) (fun _ h=>h.elim)
 obtain⟨R,eN,hN,k1,k2,k3,k4,k5,k6⟩:=Cb hT je ((ops.toList.zip rt.ev).take b) [] (fun j p hp=>by
  rw[List.getElem?_take]at hp;split at hp
  ·have:=List.getElem?_zip_eq_some.1 hp
   simpa using this
  ·cases hp) (fun k q hq=>by simp at hq) List.Pairwise.nil hk
 simp only[List.nil_append]at k4 k5;have By:R.length=b:=by
  rw[k3,List.length_take,List.length_zip,hlen];have:ops.toList.length=ops.size:=by simp
  omega
 have Av:∀ q∈R,q.idx<b:=fun q hq=>by
  obtain⟨k,fK,pD⟩:=List.mem_iff_getElem.1 hq;have:=(k4 k q (by rw[List.getElem?_eq_getElem fK,pD])).1;omega
 have FA:Tr F w F { w with drawn:=w.drawn+1 }:=Tr.drew _;refine wpIn_mono (wpIn_region_any (id:=id) (Q:=la Y cx r m F w a.tmps.size (fun e h s=>dx (aP ft.ks e) fun e=>K .normal ⟨e,h,s⟩)) hm ?_) fun ex a' w' hq=>?_
 ·have IW:ops.size=(ops.size-b)+b:=by omega
  rw[IW];refine Be (cx:=cx) hY.laid (r:=r) (m:=m) (s:=s) (n0:=a.tmps.size) (F0:=F) (w0:=w) (f':=⟨get eN,get hN⟩) kX DB qe.2 hd (fun a' w' L' F' st aT hf hs dY tr hn ht=>?_) b (l:=R) (st:=⟨e1,h1,s⟩) By Av
   ⟨k5,fun q hq=>?_,fun q hq=>?_,fun q hq=>?_⟩ (db.same (w':={ w with drawn:=w.drawn+1 }) rfl rfl rfl rfl) rfl FA rfl (fun q hq x hx=>hu x (.inl (k6 q hq x hx))) k2 ⟨fun i=>?_,by simp;omega,fun j o hj=>?_⟩
  ·have he:get st.env=get eN:=congrArg Fs.env hf
   have hh:get st.heap=get hN:=congrArg Fs.heap hf;have iX:=dY.sub (e:=eN) (h:=hN) (fun x v hx=>by rw[he];exact hx) (fun x v hx=>by rw[hh];exact hx);rw[hs]at iX;rw[zA DB ht,BB];exact qS hT hY Nd.1 Nd.2 hd (iH.length-b) (by unfold qO;simp;omega) (FE _ _) iX hn tr k1
  ·obtain⟨k,fK,pD⟩:=List.mem_iff_getElem.1 hq
   exact(k4 k q (by rw[List.getElem?_eq_getElem fK,pD])).2.snd
  ·obtain⟨k,fK,pD⟩:=List.mem_iff_getElem.1 hq
   exact(k4 k q (by rw[List.getElem?_eq_getElem fK,pD])).2.news
  ·obtain⟨k,fK,pD⟩:=List.mem_iff_getElem.1 hq
   obtain⟨o,t,h1,h2,h3,_⟩:=(k4 k q (by rw[List.getElem?_eq_getElem fK,pD])).2.op;exact⟨t,h2,h3⟩
  ·rw[<- IW,Array.getD_eq_getD_getElem?,Array.getElem?_replicate]
   constructor
   ·rintro (⟨q,hq,rfl⟩|⟨h1,h2⟩)
    ·have:=Av q hq
     rw[if_pos (by omega)];rfl
    ·rw[if_pos h2];rfl
   ·intro hi
    by_cases GA:i<b
    ·exact .inl ⟨R[i],List.getElem_mem ..,(k4 i R[i] (List.getElem?_eq_getElem (by omega))).1⟩
    ·by_cases vq:i<ops.size
     ·exact .inr ⟨by omega,vq⟩
     ·rw[if_neg vq]at hi;simp at hi
  ·rw[<- IW,Array.getD_eq_getD_getElem?,Array.getElem?_replicate]at hj
   split at hj<;>cases hj
 ·rcases hq with⟨e',h',s',L',F',hex,hk,dY,tr,hs⟩|hp
  case inr=>exact .inr hp
  rw[eY]at hk;exact .inl ⟨.normal,_,m,L',F',hex,hk,dY.sub (dS ft.ks e') (fun _ _ h=>h),tr,hs⟩
end
end Go.PX
namespace Go.PX
open Go.Proofs
def Bw:FT:=⟨IA.ks,cut IA.tb 10⟩
def Mp:RT:=match get IA.tb 10 with
 | some r=>r
 | none=>⟨[],[]⟩
def Km:List (List Nat):=[[],[],[],[],[],[],[],[],[],[],[],[],[],[12],[13],[13],[14],[15,16]]
def aW(ls:List (List Int)):List (List (List D)):=ls.map aA
def Qs(o:Option (List (List Int))):D:=.tup [aJ (o.getD []),.bool o.isSome]
def J6(c:ao)(R:List (List Int))(k:Nat)(t:ag)(rest ls:List (List Int))(dv:D)(LS:List (List (List D))):Prop:=
 ∃ dp,LS=aW dp/\g9 c (aB c) R dp/\(∀ j,j<k->dp[j]?=ls[j]?)/\dv=Qs (dF c (aB c) rest t)
def wU(c:ao)(R:List (List Int))(rest:List (List Int)):Prop:=∀ (k:Nat) (t:ag) (ls:List (List Int)),R.drop k=rest->k<=R.length->mF c t->g9 c (aB c) R ls -> ∀ {σ:Type} (Y:Hd σ) (s:σ),
 zG Try.prog Y 84 [.d c.d,.d t.d,.d (aJ rest),.sl 1000000 1 k rest.length] ((1000000,bO 1000001 1 ((aW ls).map Rw.bw))::aD 1000001 1 0 ((aW ls).map Rw.bw)) s fun v h' s'=>
  s'=s /\ ∃ dv LS,J6 c R k t rest ls dv LS/\LS.length=(aW ls).length/\v = .d dv/\h'=(1000000,bO 2000000 1 (LS.map Rw.bw))::aD 2000000 1 0 (LS.map Rw.bw)
theorem nS{c:ao}{set:Int}:∀ {rows l:List (List Int)} {t:ag},dF c set rows t=some l->l.length=rows.length
 | [],l,t,h=>by cases h;rfl
 | R::rest,l,t,h=>by
  rw[dF]at h;obtain⟨p,_,tl,_,h2,rfl⟩:=nT h;rw[List.length_cons,nS h2];rfl
theorem ka{α:Type}{l:List α}{k:Nat}{x:α}(h:l[k]?=some x):l.set k x=l:=by
 apply List.ext_getElem?;intro j;rw[List.getElem?_set];split
 ·rename_i e
  subst e;have:=(List.getElem?_eq_some_iff.1 h).1;rw[if_pos this,h]
 ·rfl
def vH(k n:Nat)(ls:List (List Int)):List Rw:=((aW ls).map Rw.bw).set k (.kL 900002 n)
theorem eK{B k n j:Nat}{ls:List (List Int)}(hj:j<B)(h9:j≠900002):a7 (aQ j) (cu B 1 0 (vH k n ls))=cu B 1 0 (vH k n ls):=ql hj fun K n2 hm=>by
 unfold vH at hm;obtain⟨j2,sS⟩:=List.getElem?_of_mem hm;rw[List.getElem?_set]at sS;split at sS
 ·split at sS
  ·cases sS;omega
  ·cases sS
 ·rw[List.getElem?_map]at sS
  cases hb:(aW ls)[j2]? with
  | none=>rw[hb]at sS;cases sS
  | some x=>rw[hb]at sS;cases sS
theorem Ad(c:ao)(R:List (List Int))(By:R.length<=40):wU c R []:=by
 intro k t ls hd hk ht hD σ Y s;obtain⟨B,hB⟩:∃ B:Nat,3000000<=B:=⟨3000000,Nat.le_refl _⟩;have rR:(aW ls).length<=64:=by unfold aW;rw[List.length_map,hD.len];omega
 refine Bj B hB rR rfl rfl ?_;obtain⟨RW,CG⟩:∃ RW,RW=(aW ls).map Rw.bw:=⟨_,rfl⟩;rw[<- CG];refine ic mixed aI Try.func84 rfl (ft:=Bw) (args:=[.d c.d,.d t.d,.d (aJ []),.sl 1000000 1 k 0]) (show zK Bw Try.f84 4=true from by decide +kernel) ?_;conv=>whnf
 repeat (first
  | (refine ab (T':=aD B 1 0 RW) (by first|exact rfl|exact al (by omega)|exact an _|exact ae _ (by omega)) ?_;conv=>whnf)
  | (refine ab (T':=[]) (by exact af hB rfl) ?_;conv=>whnf))
 have oA:∀ j:Nat,j<B->a7 (aQ j) (cu B 1 0 RW)=cu B 1 0 RW:=fun j hj=>by rw[CG];exact wi hj _ _
 rw[oA 4 (by omega),oA 5 (by omega)];refine dR ?_;refine x7 (B:=B) (sz:=1) (ls:=aW ls) [.vs [],.bool true] hB rR rfl ?_ ?_ ?_
 ·rw[<- CG];rfl
 ·intro j hj
  rw[<- CG];repeat rw[aF,if_neg (by omega)]
 ·exact⟨rfl,_,aW ls,⟨ls,rfl,hD,fun _ _=>rfl,rfl⟩,rfl,rfl,rfl⟩
set_option maxHeartbeats 4000000 in
theorem ym(c:ao)(hR:WR c)(R:List (List Int))(By:R.length<=40)(M8:∀ r∈R,r.length<1000000)(Rk:List Int)(rest:List (List Int))(ih:wU c R rest):wU c R (Rk::rest):=by
 intro k t ls hd hk ht hD σ Y s;obtain⟨B,hB⟩:∃ B:Nat,3000000<=B:=⟨3000000,Nat.le_refl _⟩;have rR:(aW ls).length<=64:=by unfold aW;rw[List.length_map,hD.len];omega
 have HU:k<R.length:=by
  rcases Nat.lt_or_ge k R.length with h|h
  ·exact h
  ·rw[List.drop_eq_nil_of_le h]at hd;cases hd
 have IM:R.drop (k+1)=rest:=by rw[<- List.tail_drop,hd];rfl
 have CX:rest.length+1=R.length-k:=by
  have:=congrArg List.length hd;rw[List.length_drop,List.length_cons]at this;omega
 have Sh:Rk.length<1000000:=M8 Rk (List.mem_of_mem_drop (i:=k) (by rw[hd];simp));obtain⟨row,nj⟩:∃ row,ls[k]?=some row:=⟨_,List.getElem?_eq_getElem (by rw[hD.len];exact HU)⟩;have Pa:=hD.MX hR nj;have Rn:=pR hR ht.u;have KQ:cy Try.prog 98 [t.d] (i64 (dm t)):=fun {σ}=>MQ t (fJ.Dv hR ht);have LP:((aW ls).map Rw.bw)[k]?=some (.bw (aA row)):=by unfold aW;rw[List.getElem?_map,List.getElem?_map,nj];rfl
 refine Bj B hB rR rfl rfl ?_;refine DJ (Wk.Ic 900002 k (sz:=1) (B:=B) (O:=1000000) [] ⟨hB,rfl,fun j hj=>by rw[aF,if_neg (by omega)],by decide,fun K' n hm=>by
  obtain⟨x,_,hx⟩:=List.mem_map.1 hm;cases hx⟩ (by decide) (by decide) LP rfl rfl trivial) rfl ?_
 obtain⟨RW,CG⟩:∃ RW,RW=((aW ls).map Rw.bw).set k (.kL 900002 (aA row).length):=⟨_,rfl⟩;rw[<- CG];have oA:∀ j:Nat,j<B->j≠900002->a7 (aQ j) (cu B 1 0 RW)=cu B 1 0 RW:=fun j hj h9=>ql hj fun K n hm=>by
  rw[CG]at hm;obtain⟨j2,sS⟩:=List.getElem?_of_mem hm;rw[List.getElem?_set]at sS;split at sS
  ·split at sS
   ·cases sS;omega
   ·cases sS
  ·rw[List.getElem?_map]at sS
   cases hb:(aW ls)[j2]? with
   | none=>rw[hb]at sS;cases sS
   | some x=>rw[hb]at sS;cases sS
 refine ic mixed aI Try.func84 rfl (ft:=Bw) (args:=[.d c.d,.d t.d,.d (aJ (Rk::rest)),.sl 1000000 1 k (rest.length+1)]) (show zK Bw Try.f84 4=true from by decide +kernel) ?_;conv=>whnf
 repeat (first
  | (refine ab (T':=aD B 1 0 RW) (by first|exact rfl|exact al (by omega)|exact an _|exact ae _ (by omega)) ?_;conv=>whnf)
  | (refine ab (T':=[]) (by exact af hB rfl) ?_;conv=>whnf))
 rw[oA 4 (by omega) (by omega),oA 5 (by omega) (by omega)];refine ak (fun _=>?_) (fun h=>absurd h (by simp));conv=>whnf
 repeat (first
  | (refine ab (T':=aD B 1 0 RW) (by first|exact rfl|exact al (by omega)|exact an _|exact ae _ (by omega)) ?_;conv=>whnf)
  | (refine ab (T':=[]) (by exact af hB rfl) ?_;conv=>whnf))
 have kx:∀ z:Int,z=0->(cu B 1 0 RW)[k+z.toNat]?=some [V.sl 900002 1 0 (aA row).length]:=fun z hz=>by
  subst hz;rw[iA,CG,List.getElem?_set,if_pos (by simp),if_pos (by unfold aW;have:=hD.len;simp;omega)];rfl
 rw[kx 0 rfl];conv=>whnf
 repeat (first
  | (refine ab (T':=aD B 1 0 RW) (by first|exact rfl|exact al (by omega)|exact an _|exact ae _ (by omega)) ?_;conv=>whnf)
  | (refine ab (T':=[]) (by exact af hB rfl) ?_;conv=>whnf))
 refine aE (ds:=[t.d]) KQ rfl rfl ?_;conv=>whnf
 repeat (first
  | (refine ab (T':=aD B 1 0 RW) (by first|exact rfl|exact al (by omega)|exact an _|exact ae _ (by omega)) ?_;conv=>whnf)
  | (refine ab (T':=[]) (by exact af hB rfl) ?_;conv=>whnf))
 refine cW (ds:=[aj row,i64 (dm t)]) (sE row (dm t) (by omega)) rfl 1 ?_ ?_
 ·exact aV (bI rfl (by simp[aA])) rfl
 conv=>whnf
 repeat (first
  | (refine ab (T':=aD B 1 0 RW) (by first|exact rfl|exact al (by omega)|exact an _|exact ae _ (by omega)) ?_;conv=>whnf)
  | (refine ab (T':=[]) (by exact af hB rfl) ?_;conv=>whnf))
 refine ak (fun h1=>?_) (fun h1=>?_)
 ·have h1:dm t∈row:=of_decide_eq_true h1
  have hf:=hD.no hR nj ht h1;rw[hd]at hf;conv=>whnf
  refine dR ?_;refine tg (B:=B) (sz:=1) (ls:=aW ls) [.vs [],.bool false] k 900002 (l:=aA row) hB rR rfl (by unfold aW;rw[List.length_map,hD.len];exact HU) (by omega) ?_ ?_ ?_ ?_
  ·rw[<- CG];rfl
  ·rfl
  ·intro j hj
   rw[<- CG];repeat rw[aF,if_neg (by omega)]
  ·have mN:(aW ls).set k (aA row)=aW ls:=by
    unfold aW;rw[<- List.map_set]
    congr 1
    exact ka nj
   rw[mN];exact⟨rfl,_,aW ls,⟨ls,rfl,hD,fun _ _=>rfl,by rw[hf];rfl⟩,rfl,rfl,rfl⟩
 have h1:dm t∉row:=of_decide_eq_false h1;conv=>whnf
 repeat (first
  | (refine ab (T':=aD B 1 0 RW) (by first|exact rfl|exact al (by omega)|exact an _|exact ae _ (by omega)) ?_;conv=>whnf)
  | (refine ab (T':=[]) (by exact af hB rfl) ?_;conv=>whnf))
 have hm:=hR.aL;refine aE (ds:=[c.d,i64 (-1)]) (MK c hm.2 (-1)) rfl rfl ?_;conv=>whnf
 repeat (first
  | (refine ab (T':=aD B 1 0 RW) (by first|exact rfl|exact al (by omega)|exact an _|exact ae _ (by omega)) ?_;conv=>whnf)
  | (refine ab (T':=[]) (by exact af hB rfl) ?_;conv=>whnf))
 refine aE (ds:=[c.d,t.d,aj (dL c (-1))]) (MP c hR t ht.u _ (uH hR (-1))) rfl rfl ?_;have mN:=y9 hR;obtain⟨db,iX,Gy⟩:=tv hR mN ht;have BC:dF c (aB c) (Rk::rest) t=gQ Rk (dF c (aB c) rest) ((pP c (dL c (-1)) t).map fun g=>(g,aZ c t g)):=by
  rw[dF,rO hR mN ht.u]
 generalize pP c (dL c (-1)) t=gs at db iX Gy BC ⊢;conv=>whnf
 repeat (first
  | (refine ab (T':=aD B 1 0 RW) (by first|exact rfl|exact al (by omega)|exact an _|exact ae _ (by omega)) ?_;conv=>whnf)
  | (refine ab (T':=[]) (by exact af hB rfl) ?_;conv=>whnf))
 refine bt (T:=tys) aI (by exact au mixed aI (by decide +kernel)) gs (fun i (l2:List (List Int))=>⟨[(2,.d (aJ (Rk::rest))),(3,.sl 1000000 1 k (rest.length+1)),(4,.ptr 4 0),(5,.ptr 5 0),(10,.d (aJ gs)),(11,.d (i64 i))],
   (1000000,bO B 1 (vH k (aA row).length l2))::(900002,.arr 1 (.dd (aA row)))::([(5,.box (.dd t.cells)),(4,.box (.dd c.cells))]++aD B 1 0 (vH k (aA row).length l2)),s⟩)
  (fun i r l2=>g9 c (aB c) R l2/\l2[k]?=some row/\(∀ j,j<k->l2[j]?=ls[j]?)/\dF c (aB c) (Rk::rest) t=gQ Rk (dF c (aB c) rest) (r.map fun g=>(g,aZ c t g)) /\ ∀ g∈r,g.length<=2/\mF c (aZ c t g)) ls ?wk ⟨hD,nj,fun _ _=>rfl,BC,fun g hg=>⟨iX g hg,Gy _ (List.mem_map_of_mem hg)⟩⟩ ?_ ?_
 case wk=>
  subst CG;exact Wk.zz ((1000000,bO B 1 (vH k (aA row).length ls))::(900002,.arr 1 (.dd (aA row))) :: [(5,.box (.dd t.cells)),(4,.box (.dd c.cells))]) hB ⟨rfl,rfl,rfl,rfl,rfl,rfl,trivial⟩ (fun y hy=>by
   repeat rw[aF,if_neg (by omega)]
   rfl) ⟨rfl,rfl,rfl,rfl,trivial⟩
 ·rintro i g r l2 Ex hi wb ⟨FL,uc,jP,ma,CQ⟩
  clear CG oA kx;obtain⟨ko,vk⟩:∃ ko,ko=vH k (aA row).length l2:=⟨_,rfl⟩;rw[<- vk];conv=>whnf
  repeat (first
   | (refine ab (T':=aD B 1 0 ko) (by first|exact rfl|exact al (by omega)|exact an _|exact ae _ (by omega)) ?_;conv=>whnf)
   | (refine ab (T':=[]) (by exact af hB rfl) ?_;conv=>whnf))
  refine ak (fun _=>?_) (fun h=>absurd hi (by have:=of_decide_eq_false h;simp at this;omega));conv=>whnf
  repeat (first
   | (refine ab (T':=aD B 1 0 ko) (by first|exact rfl|exact al (by omega)|exact an _|exact ae _ (by omega)) ?_;conv=>whnf)
   | (refine ab (T':=[]) (by exact af hB rfl) ?_;conv=>whnf))
  obtain⟨tW,JY⟩:=CQ g (by simp);have Aw:∀ g∈r,g.length<=2/\mF c (aZ c t g):=fun g hg=>CQ g (by simp[hg]);refine ak (fun h5=>?_) (fun h5=>?_)
  ·conv=>whnf
   repeat (first
    | (refine ab (T':=aD B 1 0 ko) (by first|exact rfl|exact al (by omega)|exact an _|exact ae _ (by omega)) ?_;conv=>whnf)
    | (refine ab (T':=[]) (by exact af hB rfl) ?_;conv=>whnf))
   refine ai Ex ?_;conv=>whnf
   repeat (first
    | (refine ab (T':=aD B 1 0 ko) (by first|exact rfl|exact al (by omega)|exact an _|exact ae _ (by omega)) ?_;conv=>whnf)
    | (refine ab (T':=[]) (by exact af hB rfl) ?_;conv=>whnf))
   refine aE (ds:=[aj Rk,aj g]) (vi Rk g Sh) rfl rfl ?_;conv=>whnf
   repeat (first
    | (refine ab (T':=aD B 1 0 ko) (by first|exact rfl|exact al (by omega)|exact an _|exact ae _ (by omega)) ?_;conv=>whnf)
    | (refine ab (T':=[]) (by exact af hB rfl) ?_;conv=>whnf))
   refine ak (fun h6=>?_) (fun h6=>?_)
   ·have h6:Rk≠g:=by simpa using h6
    have ob:iK Rk g=false:=by
     have h5:0<Rk.length:=by simpa using h5
     unfold iK;rw[decide_eq_false (by omega),decide_eq_false h6];rfl
    rw[List.map_cons,gQ,ob]at ma;conv=>whnf
    repeat (first
     | (refine ab (T':=aD B 1 0 ko) (by first|exact rfl|exact al (by omega)|exact an _|exact ae _ (by omega)) ?_;conv=>whnf)
     | (refine ab (T':=[]) (by exact af hB rfl) ?_;conv=>whnf))
    refine ah ?_;conv=>whnf
    repeat (first
     | (refine ab (T':=aD B 1 0 ko) (by first|exact rfl|exact al (by omega)|exact an _|exact ae _ (by omega)) ?_;conv=>whnf)
     | (refine ab (T':=[]) (by exact af hB rfl) ?_;conv=>whnf))
    subst vk;exact⟨l2,⟨FL,uc,jP,ma,Aw⟩,Wk.zz ((1000000,bO B 1 (vH k (aA row).length l2))::(900002,.arr 1 (.dd (aA row))) :: [(5,.box (.dd t.cells)),(4,.box (.dd c.cells))]) hB ⟨rfl,rfl,rfl,rfl,rfl,rfl,trivial⟩ (fun y hy=>by
     rw[aF,if_neg (by omega),aF,if_neg (by omega)];repeat rw[List.cons_append,aF,if_neg (by omega)]
     rfl) ⟨rfl,rfl,rfl,rfl,trivial⟩⟩
   ·have h6:Rk=g:=by simpa using h6
    have ob:iK Rk g=true:=by
     unfold iK;rw[decide_eq_true h6,Bool.or_true]
    have fz:=ma;rw[List.map_cons,gQ,if_pos ob]at fz;conv=>whnf
    repeat (first
     | (refine ab (T':=aD B 1 0 ko) (by first|exact rfl|exact al (by omega)|exact an _|exact ae _ (by omega)) ?_;conv=>whnf)
     | (refine ab (T':=[]) (by exact af hB rfl) ?_;conv=>whnf))
    refine lQ mixed aI Mp 12 Km (by decide +kernel) (by decide +kernel) (by decide +kernel) ?_;conv=>whnf
    repeat (first
     | (refine ab (T':=aD B 1 0 ko) (by first|exact rfl|exact al (by omega)|exact an _|exact ae _ (by omega)) ?_;conv=>whnf)
     | (refine ab (T':=[]) (by exact af hB rfl) ?_;conv=>whnf))
    refine ai Ex ?_;conv=>whnf
    repeat (first
     | (refine ab (T':=aD B 1 0 ko) (by first|exact rfl|exact al (by omega)|exact an _|exact ae _ (by omega)) ?_;conv=>whnf)
     | (refine ab (T':=[]) (by exact af hB rfl) ?_;conv=>whnf))
    refine aE (ds:=[c.d,t.d,aj g]) (Hw c hR t (fJ.Dv hR ht) ht.z g (by omega)) rfl rfl ?_;conv=>whnf
    repeat (first
     | (refine ab (T':=aD B 1 0 ko) (by first|exact rfl|exact al (by omega)|exact an _|exact ae _ (by omega)) ?_;conv=>whnf)
     | (refine ab (T':=[]) (by exact af hB rfl) ?_;conv=>whnf))
    refine ak (fun _=>?_) (fun h=>absurd h (by simp;omega));conv=>whnf
    repeat (first
     | (refine ab (T':=aD B 1 0 ko) (by first|exact rfl|exact al (by omega)|exact an _|exact ae _ (by omega)) ?_;conv=>whnf)
     | (refine ab (T':=[]) (by exact af hB rfl) ?_;conv=>whnf))
    have xW:List.drop (Int.toNat 1) (List.take ((Rk::rest).map fun r=>[aj r]).length ((Rk::rest).map fun r=>[aj r]))=rest.map fun r=>[aj r]:=by rw[List.take_length];rfl
    rw[xW];refine ak (fun _=>?_) (fun h=>absurd h (by simp;omega));conv=>whnf
    repeat (first
     | (refine ab (T':=aD B 1 0 ko) (by first|exact rfl|exact al (by omega)|exact an _|exact ae _ (by omega)) ?_;conv=>whnf)
     | (refine ab (T':=[]) (by exact af hB rfl) ?_;conv=>whnf))
    refine⟨?_,trivial⟩;conv=>whnf
    repeat (first
     | (refine ab (T':=aD B 1 0 ko) (by first|exact rfl|exact al (by omega)|exact an _|exact ae _ (by omega)) ?_;conv=>whnf)
     | (refine ab (T':=[]) (by exact af hB rfl) ?_;conv=>whnf))
    subst vk;have AE:(aW l2)[k]?=some (aA row):=by unfold aW;rw[List.getElem?_map,uc];rfl
    refine vE (ih (k+1) (aZ c t g) l2 IM (by omega) JY FL Y.np s) B 1000000 k 900002 (lk:=aA row) (F:=[(5,.box (.dd t.cells)),(4,.box (.dd c.cells))]) hB (by unfold aW;rw[List.length_map,FL.len];omega) (by decide) rfl (by decide) (by decide) AE rfl rfl rfl rfl ⟨rfl,rfl,trivial⟩ rfl rfl ?_;rintro dv LS DF ⟨l3,rfl,v7,jQ,rfl⟩ Pw FO;have jR:l3[k]?=some row:=by rw[jQ k (by omega)];exact uc
    have zM:DF=aA row:=by
     unfold aW at FO;rw[List.getElem?_map,jR]at FO;exact(Option.some.inj FO).symm
    subst zM;obtain⟨dq,o5⟩:∃ dq,dq=vH k (aA row).length l3:=⟨_,rfl⟩;have Eo:((aW l3).map Rw.bw).set k (.kL 900002 (aA row).length)=dq:=o5.symm;rw[Eo];have mK:=fun l=>nS (c:=c) (set:=aB c) (rows:=rest) (t:=aZ c t g) (l:=l);generalize dF c (aB c) rest (aZ c t g)=o at fz mK ⊢;conv=>whnf
    repeat (first
     | (refine ab (T':=aD B 1 0 dq) (by first|exact rfl|exact al (by omega)|exact an _|exact ae _ (by omega)) ?_;conv=>whnf)
     | (refine ab (T':=[]) (by exact af hB rfl) ?_;conv=>whnf))
    cases o with
    | none=>
     refine⟨?_,trivial⟩;conv=>whnf
     repeat (first
      | (refine ab (T':=aD B 1 0 dq) (by first|exact rfl|exact al (by omega)|exact an _|exact ae _ (by omega)) ?_;conv=>whnf)
      | (refine ab (T':=[]) (by exact af hB rfl) ?_;conv=>whnf))
     refine⟨?_,?_,trivial⟩
     ·conv=>whnf
      repeat (first
       | (refine ab (T':=aD B 1 0 dq) (by first|exact rfl|exact al (by omega)|exact an _|exact ae _ (by omega)) ?_;conv=>whnf)
       | (refine ab (T':=[]) (by exact af hB rfl) ?_;conv=>whnf))
      refine⟨?_,?_,trivial⟩
      ·conv=>whnf
       repeat (first
        | (refine ab (T':=aD B 1 0 dq) (by first|exact rfl|exact al (by omega)|exact an _|exact ae _ (by omega)) ?_;conv=>whnf)
        | (refine ab (T':=[]) (by exact af hB rfl) ?_;conv=>whnf))
       refine⟨?_,trivial⟩;conv=>whnf
       repeat (first
        | (refine ab (T':=aD B 1 0 dq) (by first|exact rfl|exact al (by omega)|exact an _|exact ae _ (by omega)) ?_;conv=>whnf)
        | (refine ab (T':=[]) (by exact af hB rfl) ?_;conv=>whnf))
       refine⟨?_,trivial⟩;conv=>whnf
       repeat (first
        | (refine ab (T':=aD B 1 0 dq) (by first|exact rfl|exact al (by omega)|exact an _|exact ae _ (by omega)) ?_;conv=>whnf)
        | (refine ab (T':=[]) (by exact af hB rfl) ?_;conv=>whnf))
       refine ah ?_;conv=>whnf
       repeat (first
        | (refine ab (T':=aD B 1 0 dq) (by first|exact rfl|exact al (by omega)|exact an _|exact ae _ (by omega)) ?_;conv=>whnf)
        | (refine ab (T':=[]) (by exact af hB rfl) ?_;conv=>whnf))
       subst o5;exact⟨l3,⟨v7,jR,fun j hj=>(jQ j (by omega)).trans (jP j hj),fz,Aw⟩,Wk.zz ((1000000,bO B 1 (vH k (aA row).length l3))::(900002,.arr 1 (.dd (aA row))) :: [(5,.box (.dd t.cells)),(4,.box (.dd c.cells))]) hB ⟨rfl,rfl,rfl,rfl,rfl,rfl,trivial⟩ (fun y hy=>by
        rw[aF,if_neg (by omega),aF,if_neg (by omega)];repeat rw[List.cons_append,aF,if_neg (by omega)]
        rfl) ⟨rfl,rfl,rfl,rfl,trivial⟩⟩
      ·conv=>whnf
       repeat (first
        | (refine ab (T':=aD B 1 0 dq) (by first|exact rfl|exact al (by omega)|exact an _|exact ae _ (by omega)) ?_;conv=>whnf)
        | (refine ab (T':=[]) (by exact af hB rfl) ?_;conv=>whnf))
       refine⟨?_,trivial⟩;conv=>whnf
       repeat (first
        | (refine ab (T':=aD B 1 0 dq) (by first|exact rfl|exact al (by omega)|exact an _|exact ae _ (by omega)) ?_;conv=>whnf)
        | (refine ab (T':=[]) (by exact af hB rfl) ?_;conv=>whnf))
       refine⟨?_,trivial⟩;conv=>whnf
       repeat (first
        | (refine ab (T':=aD B 1 0 dq) (by first|exact rfl|exact al (by omega)|exact an _|exact ae _ (by omega)) ?_;conv=>whnf)
        | (refine ab (T':=[]) (by exact af hB rfl) ?_;conv=>whnf))
       refine ah ?_;conv=>whnf
       repeat (first
        | (refine ab (T':=aD B 1 0 dq) (by first|exact rfl|exact al (by omega)|exact an _|exact ae _ (by omega)) ?_;conv=>whnf)
        | (refine ab (T':=[]) (by exact af hB rfl) ?_;conv=>whnf))
       subst o5;exact⟨l3,⟨v7,jR,fun j hj=>(jQ j (by omega)).trans (jP j hj),fz,Aw⟩,Wk.zz ((1000000,bO B 1 (vH k (aA row).length l3))::(900002,.arr 1 (.dd (aA row))) :: [(5,.box (.dd t.cells)),(4,.box (.dd c.cells))]) hB ⟨rfl,rfl,rfl,rfl,rfl,rfl,trivial⟩ (fun y hy=>by
        rw[aF,if_neg (by omega),aF,if_neg (by omega)];repeat rw[List.cons_append,aF,if_neg (by omega)]
        rfl) ⟨rfl,rfl,rfl,rfl,trivial⟩⟩
     ·conv=>whnf
      repeat (first
       | (refine ab (T':=aD B 1 0 dq) (by first|exact rfl|exact al (by omega)|exact an _|exact ae _ (by omega)) ?_;conv=>whnf)
       | (refine ab (T':=[]) (by exact af hB rfl) ?_;conv=>whnf))
      refine⟨?_,trivial⟩;conv=>whnf
      repeat (first
       | (refine ab (T':=aD B 1 0 dq) (by first|exact rfl|exact al (by omega)|exact an _|exact ae _ (by omega)) ?_;conv=>whnf)
       | (refine ab (T':=[]) (by exact af hB rfl) ?_;conv=>whnf))
      refine⟨?_,trivial⟩;conv=>whnf
      repeat (first
       | (refine ab (T':=aD B 1 0 dq) (by first|exact rfl|exact al (by omega)|exact an _|exact ae _ (by omega)) ?_;conv=>whnf)
       | (refine ab (T':=[]) (by exact af hB rfl) ?_;conv=>whnf))
      refine⟨?_,trivial⟩;conv=>whnf
      repeat (first
       | (refine ab (T':=aD B 1 0 dq) (by first|exact rfl|exact al (by omega)|exact an _|exact ae _ (by omega)) ?_;conv=>whnf)
       | (refine ab (T':=[]) (by exact af hB rfl) ?_;conv=>whnf))
      refine ah ?_;conv=>whnf
      repeat (first
       | (refine ab (T':=aD B 1 0 dq) (by first|exact rfl|exact al (by omega)|exact an _|exact ae _ (by omega)) ?_;conv=>whnf)
       | (refine ab (T':=[]) (by exact af hB rfl) ?_;conv=>whnf))
      subst o5;exact⟨l3,⟨v7,jR,fun j hj=>(jQ j (by omega)).trans (jP j hj),fz,Aw⟩,Wk.zz ((1000000,bO B 1 (vH k (aA row).length l3))::(900002,.arr 1 (.dd (aA row))) :: [(5,.box (.dd t.cells)),(4,.box (.dd c.cells))]) hB ⟨rfl,rfl,rfl,rfl,rfl,rfl,trivial⟩ (fun y hy=>by
       rw[aF,if_neg (by omega),aF,if_neg (by omega)];repeat rw[List.cons_append,aF,if_neg (by omega)]
       rfl) ⟨rfl,rfl,rfl,rfl,trivial⟩⟩
    | some fl=>
     refine⟨?_,trivial⟩;conv=>whnf
     repeat (first
      | (refine ab (T':=aD B 1 0 dq) (by first|exact rfl|exact al (by omega)|exact an _|exact ae _ (by omega)) ?_;conv=>whnf)
      | (refine ab (T':=[]) (by exact af hB rfl) ?_;conv=>whnf))
     refine⟨?_,?_,trivial⟩
     ·conv=>whnf
      repeat (first
       | (refine ab (T':=aD B 1 0 dq) (by first|exact rfl|exact al (by omega)|exact an _|exact ae _ (by omega)) ?_;conv=>whnf)
       | (refine ab (T':=[]) (by exact af hB rfl) ?_;conv=>whnf))
      refine⟨?_,?_,trivial⟩
      ·conv=>whnf
       repeat (first
        | (refine ab (T':=aD B 1 0 dq) (by first|exact rfl|exact al (by omega)|exact an _|exact ae _ (by omega)) ?_;conv=>whnf)
        | (refine ab (T':=[]) (by exact af hB rfl) ?_;conv=>whnf))
       refine⟨?_,trivial⟩;conv=>whnf
       repeat (first
        | (refine ab (T':=aD B 1 0 dq) (by first|exact rfl|exact al (by omega)|exact an _|exact ae _ (by omega)) ?_;conv=>whnf)
        | (refine ab (T':=[]) (by exact af hB rfl) ?_;conv=>whnf))
       refine⟨?_,trivial⟩;conv=>whnf
       repeat (first
        | (refine ab (T':=aD B 1 0 dq) (by first|exact rfl|exact al (by omega)|exact an _|exact ae _ (by omega)) ?_;conv=>whnf)
        | (refine ab (T':=[]) (by exact af hB rfl) ?_;conv=>whnf))
       refine ai Ex ?_;conv=>whnf
       repeat (first
        | (refine ab (T':=aD B 1 0 dq) (by first|exact rfl|exact al (by omega)|exact an _|exact ae _ (by omega)) ?_;conv=>whnf)
        | (refine ab (T':=[]) (by exact af hB rfl) ?_;conv=>whnf))
       have Ew:=mK fl rfl;refine ar rfl ?_;conv=>whnf
       refine aR (by rw[Bool.and_eq_true];exact⟨da (fun _=>⟨rfl,rfl⟩) _,rfl⟩) ?_;conv=>whnf
       refine aR (decide_eq_true (by
        show(1+(fl.map fun r=>[aj r]).length)*24<=140737488355328;rw[List.length_map];omega)) ?_
       conv=>whnf
       repeat (first
        | (refine ab (T':=aD B 1 0 dq) (by first|exact rfl|exact al (by omega)|exact an _|exact ae _ (by omega)) ?_;conv=>whnf)
        | (refine ab (T':=[]) (by exact af hB rfl) ?_;conv=>whnf))
       subst o5;rw[eK (B:=B) (k:=k) (n:=(aA row).length) (ls:=l3) (j:=71) (by omega) (by omega),eK (B:=B) (k:=k) (n:=(aA row).length) (ls:=l3) (j:=73) (by omega) (by omega)];have CZ:(aW l3).set k (aA row)=aW l3:=ka (by unfold aW;rw[List.getElem?_map,jR];rfl);have ua:(aW l3).length=R.length:=by unfold aW;rw[List.length_map,v7.len]
       refine jw (B:=B) (sz:=1) (ls:=aW l3) 73 _ (.bool true) (es:=(g::fl).map fun r=>[aj r]) k 900002 (l:=aA row) hB (by omega) (by omega) (by omega) (by omega) (by omega) (by omega) rfl (by
        show 1+(fl.map fun r=>[aj r]).length=_;simp;omega) rfl rfl (fun j hj=>by
        repeat rw[aF,if_neg (by omega)]
        rfl) ?_
       rw[CZ];exact⟨rfl,_,aW l3,⟨l3,rfl,v7,fun j hj=>(jQ j (by omega)).trans (jP j hj),by rw[fz];rfl⟩,by rw[ua];unfold aW;rw[List.length_map,hD.len],rfl,rfl⟩
      ·conv=>whnf
       repeat (first
        | (refine ab (T':=aD B 1 0 dq) (by first|exact rfl|exact al (by omega)|exact an _|exact ae _ (by omega)) ?_;conv=>whnf)
        | (refine ab (T':=[]) (by exact af hB rfl) ?_;conv=>whnf))
       refine⟨?_,trivial⟩;conv=>whnf
       repeat (first
        | (refine ab (T':=aD B 1 0 dq) (by first|exact rfl|exact al (by omega)|exact an _|exact ae _ (by omega)) ?_;conv=>whnf)
        | (refine ab (T':=[]) (by exact af hB rfl) ?_;conv=>whnf))
       refine⟨?_,trivial⟩;conv=>whnf
       repeat (first
        | (refine ab (T':=aD B 1 0 dq) (by first|exact rfl|exact al (by omega)|exact an _|exact ae _ (by omega)) ?_;conv=>whnf)
        | (refine ab (T':=[]) (by exact af hB rfl) ?_;conv=>whnf))
       refine ai Ex ?_;conv=>whnf
       repeat (first
        | (refine ab (T':=aD B 1 0 dq) (by first|exact rfl|exact al (by omega)|exact an _|exact ae _ (by omega)) ?_;conv=>whnf)
        | (refine ab (T':=[]) (by exact af hB rfl) ?_;conv=>whnf))
       have Ew:=mK fl rfl;refine ar rfl ?_;conv=>whnf
       refine aR (by rw[Bool.and_eq_true];exact⟨da (fun _=>⟨rfl,rfl⟩) _,rfl⟩) ?_;conv=>whnf
       refine aR (decide_eq_true (by
        show(1+(fl.map fun r=>[aj r]).length)*24<=140737488355328;rw[List.length_map];omega)) ?_
       conv=>whnf
       repeat (first
        | (refine ab (T':=aD B 1 0 dq) (by first|exact rfl|exact al (by omega)|exact an _|exact ae _ (by omega)) ?_;conv=>whnf)
        | (refine ab (T':=[]) (by exact af hB rfl) ?_;conv=>whnf))
       subst o5;rw[eK (B:=B) (k:=k) (n:=(aA row).length) (ls:=l3) (j:=71) (by omega) (by omega),eK (B:=B) (k:=k) (n:=(aA row).length) (ls:=l3) (j:=73) (by omega) (by omega)];have CZ:(aW l3).set k (aA row)=aW l3:=ka (by unfold aW;rw[List.getElem?_map,jR];rfl);have ua:(aW l3).length=R.length:=by unfold aW;rw[List.length_map,v7.len]
       refine jw (B:=B) (sz:=1) (ls:=aW l3) 73 _ (.bool true) (es:=(g::fl).map fun r=>[aj r]) k 900002 (l:=aA row) hB (by omega) (by omega) (by omega) (by omega) (by omega) (by omega) rfl (by
        show 1+(fl.map fun r=>[aj r]).length=_;simp;omega) rfl rfl (fun j hj=>by
        repeat rw[aF,if_neg (by omega)]
        rfl) ?_
       rw[CZ];exact⟨rfl,_,aW l3,⟨l3,rfl,v7,fun j hj=>(jQ j (by omega)).trans (jP j hj),by rw[fz];rfl⟩,by rw[ua];unfold aW;rw[List.length_map,hD.len],rfl,rfl⟩
     ·conv=>whnf
      repeat (first
       | (refine ab (T':=aD B 1 0 dq) (by first|exact rfl|exact al (by omega)|exact an _|exact ae _ (by omega)) ?_;conv=>whnf)
       | (refine ab (T':=[]) (by exact af hB rfl) ?_;conv=>whnf))
      refine⟨?_,trivial⟩;conv=>whnf
      repeat (first
       | (refine ab (T':=aD B 1 0 dq) (by first|exact rfl|exact al (by omega)|exact an _|exact ae _ (by omega)) ?_;conv=>whnf)
       | (refine ab (T':=[]) (by exact af hB rfl) ?_;conv=>whnf))
      refine⟨?_,trivial⟩;conv=>whnf
      repeat (first
       | (refine ab (T':=aD B 1 0 dq) (by first|exact rfl|exact al (by omega)|exact an _|exact ae _ (by omega)) ?_;conv=>whnf)
       | (refine ab (T':=[]) (by exact af hB rfl) ?_;conv=>whnf))
      refine⟨?_,trivial⟩;conv=>whnf
      repeat (first
       | (refine ab (T':=aD B 1 0 dq) (by first|exact rfl|exact al (by omega)|exact an _|exact ae _ (by omega)) ?_;conv=>whnf)
       | (refine ab (T':=[]) (by exact af hB rfl) ?_;conv=>whnf))
      refine ai Ex ?_;conv=>whnf
      repeat (first
       | (refine ab (T':=aD B 1 0 dq) (by first|exact rfl|exact al (by omega)|exact an _|exact ae _ (by omega)) ?_;conv=>whnf)
       | (refine ab (T':=[]) (by exact af hB rfl) ?_;conv=>whnf))
      have Ew:=mK fl rfl;refine ar rfl ?_;conv=>whnf
      refine aR (by rw[Bool.and_eq_true];exact⟨da (fun _=>⟨rfl,rfl⟩) _,rfl⟩) ?_;conv=>whnf
      refine aR (decide_eq_true (by
       show(1+(fl.map fun r=>[aj r]).length)*24<=140737488355328;rw[List.length_map];omega)) ?_
      conv=>whnf
      repeat (first
       | (refine ab (T':=aD B 1 0 dq) (by first|exact rfl|exact al (by omega)|exact an _|exact ae _ (by omega)) ?_;conv=>whnf)
       | (refine ab (T':=[]) (by exact af hB rfl) ?_;conv=>whnf))
      subst o5;rw[eK (B:=B) (k:=k) (n:=(aA row).length) (ls:=l3) (j:=71) (by omega) (by omega),eK (B:=B) (k:=k) (n:=(aA row).length) (ls:=l3) (j:=73) (by omega) (by omega)];have CZ:(aW l3).set k (aA row)=aW l3:=ka (by unfold aW;rw[List.getElem?_map,jR];rfl);have ua:(aW l3).length=R.length:=by unfold aW;rw[List.length_map,v7.len]
      refine jw (B:=B) (sz:=1) (ls:=aW l3) 73 _ (.bool true) (es:=(g::fl).map fun r=>[aj r]) k 900002 (l:=aA row) hB (by omega) (by omega) (by omega) (by omega) (by omega) (by omega) rfl (by
       show 1+(fl.map fun r=>[aj r]).length=_;simp;omega) rfl rfl (fun j hj=>by
       repeat rw[aF,if_neg (by omega)]
       rfl) ?_
      rw[CZ];exact⟨rfl,_,aW l3,⟨l3,rfl,v7,fun j hj=>(jQ j (by omega)).trans (jP j hj),by rw[fz];rfl⟩,by rw[ua];unfold aW;rw[List.length_map,hD.len],rfl,rfl⟩
  ·have ob:iK Rk g=true:=by
    have h5:Rk.length=0:=by simpa using h5
    unfold iK;rw[decide_eq_true h5];rfl
   have fz:=ma;rw[List.map_cons,gQ,if_pos ob]at fz;conv=>whnf
   repeat (first
    | (refine ab (T':=aD B 1 0 ko) (by first|exact rfl|exact al (by omega)|exact an _|exact ae _ (by omega)) ?_;conv=>whnf)
    | (refine ab (T':=[]) (by exact af hB rfl) ?_;conv=>whnf))
   refine lQ mixed aI Mp 12 Km (by decide +kernel) (by decide +kernel) (by decide +kernel) ?_;conv=>whnf
   repeat (first
    | (refine ab (T':=aD B 1 0 ko) (by first|exact rfl|exact al (by omega)|exact an _|exact ae _ (by omega)) ?_;conv=>whnf)
    | (refine ab (T':=[]) (by exact af hB rfl) ?_;conv=>whnf))
   refine ai Ex ?_;conv=>whnf
   repeat (first
    | (refine ab (T':=aD B 1 0 ko) (by first|exact rfl|exact al (by omega)|exact an _|exact ae _ (by omega)) ?_;conv=>whnf)
    | (refine ab (T':=[]) (by exact af hB rfl) ?_;conv=>whnf))
   refine aE (ds:=[c.d,t.d,aj g]) (Hw c hR t (fJ.Dv hR ht) ht.z g (by omega)) rfl rfl ?_;conv=>whnf
   repeat (first
    | (refine ab (T':=aD B 1 0 ko) (by first|exact rfl|exact al (by omega)|exact an _|exact ae _ (by omega)) ?_;conv=>whnf)
    | (refine ab (T':=[]) (by exact af hB rfl) ?_;conv=>whnf))
   refine ak (fun _=>?_) (fun h=>absurd h (by simp;omega));conv=>whnf
   repeat (first
    | (refine ab (T':=aD B 1 0 ko) (by first|exact rfl|exact al (by omega)|exact an _|exact ae _ (by omega)) ?_;conv=>whnf)
    | (refine ab (T':=[]) (by exact af hB rfl) ?_;conv=>whnf))
   have xW:List.drop (Int.toNat 1) (List.take ((Rk::rest).map fun r=>[aj r]).length ((Rk::rest).map fun r=>[aj r]))=rest.map fun r=>[aj r]:=by rw[List.take_length];rfl
   rw[xW];refine ak (fun _=>?_) (fun h=>absurd h (by simp;omega));conv=>whnf
   repeat (first
    | (refine ab (T':=aD B 1 0 ko) (by first|exact rfl|exact al (by omega)|exact an _|exact ae _ (by omega)) ?_;conv=>whnf)
    | (refine ab (T':=[]) (by exact af hB rfl) ?_;conv=>whnf))
   refine⟨?_,trivial⟩;conv=>whnf
   repeat (first
    | (refine ab (T':=aD B 1 0 ko) (by first|exact rfl|exact al (by omega)|exact an _|exact ae _ (by omega)) ?_;conv=>whnf)
    | (refine ab (T':=[]) (by exact af hB rfl) ?_;conv=>whnf))
   subst vk;have AE:(aW l2)[k]?=some (aA row):=by unfold aW;rw[List.getElem?_map,uc];rfl
   refine vE (ih (k+1) (aZ c t g) l2 IM (by omega) JY FL Y.np s) B 1000000 k 900002 (lk:=aA row) (F:=[(5,.box (.dd t.cells)),(4,.box (.dd c.cells))]) hB (by unfold aW;rw[List.length_map,FL.len];omega) (by decide) rfl (by decide) (by decide) AE rfl rfl rfl rfl ⟨rfl,rfl,trivial⟩ rfl rfl ?_;rintro dv LS DF ⟨l3,rfl,v7,jQ,rfl⟩ Pw FO;have jR:l3[k]?=some row:=by rw[jQ k (by omega)];exact uc
   have zM:DF=aA row:=by
    unfold aW at FO;rw[List.getElem?_map,jR]at FO;exact(Option.some.inj FO).symm
   subst zM;obtain⟨dq,o5⟩:∃ dq,dq=vH k (aA row).length l3:=⟨_,rfl⟩;have Eo:((aW l3).map Rw.bw).set k (.kL 900002 (aA row).length)=dq:=o5.symm;rw[Eo];have mK:=fun l=>nS (c:=c) (set:=aB c) (rows:=rest) (t:=aZ c t g) (l:=l);generalize dF c (aB c) rest (aZ c t g)=o at fz mK ⊢;conv=>whnf
   repeat (first
    | (refine ab (T':=aD B 1 0 dq) (by first|exact rfl|exact al (by omega)|exact an _|exact ae _ (by omega)) ?_;conv=>whnf)
    | (refine ab (T':=[]) (by exact af hB rfl) ?_;conv=>whnf))
   cases o with
   | none=>
    refine⟨?_,trivial⟩;conv=>whnf
    repeat (first
     | (refine ab (T':=aD B 1 0 dq) (by first|exact rfl|exact al (by omega)|exact an _|exact ae _ (by omega)) ?_;conv=>whnf)
     | (refine ab (T':=[]) (by exact af hB rfl) ?_;conv=>whnf))
    refine⟨?_,?_,trivial⟩
    ·conv=>whnf
     repeat (first
      | (refine ab (T':=aD B 1 0 dq) (by first|exact rfl|exact al (by omega)|exact an _|exact ae _ (by omega)) ?_;conv=>whnf)
      | (refine ab (T':=[]) (by exact af hB rfl) ?_;conv=>whnf))
     refine⟨?_,?_,trivial⟩
     ·conv=>whnf
      repeat (first
       | (refine ab (T':=aD B 1 0 dq) (by first|exact rfl|exact al (by omega)|exact an _|exact ae _ (by omega)) ?_;conv=>whnf)
       | (refine ab (T':=[]) (by exact af hB rfl) ?_;conv=>whnf))
      refine⟨?_,trivial⟩;conv=>whnf
      repeat (first
       | (refine ab (T':=aD B 1 0 dq) (by first|exact rfl|exact al (by omega)|exact an _|exact ae _ (by omega)) ?_;conv=>whnf)
       | (refine ab (T':=[]) (by exact af hB rfl) ?_;conv=>whnf))
      refine⟨?_,trivial⟩;conv=>whnf
      repeat (first
       | (refine ab (T':=aD B 1 0 dq) (by first|exact rfl|exact al (by omega)|exact an _|exact ae _ (by omega)) ?_;conv=>whnf)
       | (refine ab (T':=[]) (by exact af hB rfl) ?_;conv=>whnf))
      refine ah ?_;conv=>whnf
      repeat (first
       | (refine ab (T':=aD B 1 0 dq) (by first|exact rfl|exact al (by omega)|exact an _|exact ae _ (by omega)) ?_;conv=>whnf)
       | (refine ab (T':=[]) (by exact af hB rfl) ?_;conv=>whnf))
      subst o5;exact⟨l3,⟨v7,jR,fun j hj=>(jQ j (by omega)).trans (jP j hj),fz,Aw⟩,Wk.zz ((1000000,bO B 1 (vH k (aA row).length l3))::(900002,.arr 1 (.dd (aA row))) :: [(5,.box (.dd t.cells)),(4,.box (.dd c.cells))]) hB ⟨rfl,rfl,rfl,rfl,rfl,rfl,trivial⟩ (fun y hy=>by
       rw[aF,if_neg (by omega),aF,if_neg (by omega)];repeat rw[List.cons_append,aF,if_neg (by omega)]
       rfl) ⟨rfl,rfl,rfl,rfl,trivial⟩⟩
     ·conv=>whnf
      repeat (first
       | (refine ab (T':=aD B 1 0 dq) (by first|exact rfl|exact al (by omega)|exact an _|exact ae _ (by omega)) ?_;conv=>whnf)
       | (refine ab (T':=[]) (by exact af hB rfl) ?_;conv=>whnf))
      refine⟨?_,trivial⟩;conv=>whnf
      repeat (first
       | (refine ab (T':=aD B 1 0 dq) (by first|exact rfl|exact al (by omega)|exact an _|exact ae _ (by omega)) ?_;conv=>whnf)
       | (refine ab (T':=[]) (by exact af hB rfl) ?_;conv=>whnf))
      refine⟨?_,trivial⟩;conv=>whnf
      repeat (first
       | (refine ab (T':=aD B 1 0 dq) (by first|exact rfl|exact al (by omega)|exact an _|exact ae _ (by omega)) ?_;conv=>whnf)
       | (refine ab (T':=[]) (by exact af hB rfl) ?_;conv=>whnf))
      refine ah ?_;conv=>whnf
      repeat (first
       | (refine ab (T':=aD B 1 0 dq) (by first|exact rfl|exact al (by omega)|exact an _|exact ae _ (by omega)) ?_;conv=>whnf)
       | (refine ab (T':=[]) (by exact af hB rfl) ?_;conv=>whnf))
      subst o5;exact⟨l3,⟨v7,jR,fun j hj=>(jQ j (by omega)).trans (jP j hj),fz,Aw⟩,Wk.zz ((1000000,bO B 1 (vH k (aA row).length l3))::(900002,.arr 1 (.dd (aA row))) :: [(5,.box (.dd t.cells)),(4,.box (.dd c.cells))]) hB ⟨rfl,rfl,rfl,rfl,rfl,rfl,trivial⟩ (fun y hy=>by
       rw[aF,if_neg (by omega),aF,if_neg (by omega)];repeat rw[List.cons_append,aF,if_neg (by omega)]
       rfl) ⟨rfl,rfl,rfl,rfl,trivial⟩⟩
    ·conv=>whnf
     repeat (first
      | (refine ab (T':=aD B 1 0 dq) (by first|exact rfl|exact al (by omega)|exact an _|exact ae _ (by omega)) ?_;conv=>whnf)
      | (refine ab (T':=[]) (by exact af hB rfl) ?_;conv=>whnf))
     refine⟨?_,trivial⟩;conv=>whnf
     repeat (first
      | (refine ab (T':=aD B 1 0 dq) (by first|exact rfl|exact al (by omega)|exact an _|exact ae _ (by omega)) ?_;conv=>whnf)
      | (refine ab (T':=[]) (by exact af hB rfl) ?_;conv=>whnf))
     refine⟨?_,trivial⟩;conv=>whnf
     repeat (first
      | (refine ab (T':=aD B 1 0 dq) (by first|exact rfl|exact al (by omega)|exact an _|exact ae _ (by omega)) ?_;conv=>whnf)
      | (refine ab (T':=[]) (by exact af hB rfl) ?_;conv=>whnf))
     refine⟨?_,trivial⟩;conv=>whnf
     repeat (first
      | (refine ab (T':=aD B 1 0 dq) (by first|exact rfl|exact al (by omega)|exact an _|exact ae _ (by omega)) ?_;conv=>whnf)
      | (refine ab (T':=[]) (by exact af hB rfl) ?_;conv=>whnf))
     refine ah ?_;conv=>whnf
     repeat (first
      | (refine ab (T':=aD B 1 0 dq) (by first|exact rfl|exact al (by omega)|exact an _|exact ae _ (by omega)) ?_;conv=>whnf)
      | (refine ab (T':=[]) (by exact af hB rfl) ?_;conv=>whnf))
     subst o5;exact⟨l3,⟨v7,jR,fun j hj=>(jQ j (by omega)).trans (jP j hj),fz,Aw⟩,Wk.zz ((1000000,bO B 1 (vH k (aA row).length l3))::(900002,.arr 1 (.dd (aA row))) :: [(5,.box (.dd t.cells)),(4,.box (.dd c.cells))]) hB ⟨rfl,rfl,rfl,rfl,rfl,rfl,trivial⟩ (fun y hy=>by
      rw[aF,if_neg (by omega),aF,if_neg (by omega)];repeat rw[List.cons_append,aF,if_neg (by omega)]
      rfl) ⟨rfl,rfl,rfl,rfl,trivial⟩⟩
   | some fl=>
    refine⟨?_,trivial⟩;conv=>whnf
    repeat (first
     | (refine ab (T':=aD B 1 0 dq) (by first|exact rfl|exact al (by omega)|exact an _|exact ae _ (by omega)) ?_;conv=>whnf)
     | (refine ab (T':=[]) (by exact af hB rfl) ?_;conv=>whnf))
    refine⟨?_,?_,trivial⟩
    ·conv=>whnf
     repeat (first
      | (refine ab (T':=aD B 1 0 dq) (by first|exact rfl|exact al (by omega)|exact an _|exact ae _ (by omega)) ?_;conv=>whnf)
      | (refine ab (T':=[]) (by exact af hB rfl) ?_;conv=>whnf))
     refine⟨?_,?_,trivial⟩
     ·conv=>whnf
      repeat (first
       | (refine ab (T':=aD B 1 0 dq) (by first|exact rfl|exact al (by omega)|exact an _|exact ae _ (by omega)) ?_;conv=>whnf)
       | (refine ab (T':=[]) (by exact af hB rfl) ?_;conv=>whnf))
      refine⟨?_,trivial⟩;conv=>whnf
      repeat (first
       | (refine ab (T':=aD B 1 0 dq) (by first|exact rfl|exact al (by omega)|exact an _|exact ae _ (by omega)) ?_;conv=>whnf)
       | (refine ab (T':=[]) (by exact af hB rfl) ?_;conv=>whnf))
      refine⟨?_,trivial⟩;conv=>whnf
      repeat (first
       | (refine ab (T':=aD B 1 0 dq) (by first|exact rfl|exact al (by omega)|exact an _|exact ae _ (by omega)) ?_;conv=>whnf)
       | (refine ab (T':=[]) (by exact af hB rfl) ?_;conv=>whnf))
      refine ai Ex ?_;conv=>whnf
      repeat (first
       | (refine ab (T':=aD B 1 0 dq) (by first|exact rfl|exact al (by omega)|exact an _|exact ae _ (by omega)) ?_;conv=>whnf)
       | (refine ab (T':=[]) (by exact af hB rfl) ?_;conv=>whnf))
      have Ew:=mK fl rfl;refine ar rfl ?_;conv=>whnf
      refine aR (by rw[Bool.and_eq_true];exact⟨da (fun _=>⟨rfl,rfl⟩) _,rfl⟩) ?_;conv=>whnf
      refine aR (decide_eq_true (by
       show(1+(fl.map fun r=>[aj r]).length)*24<=140737488355328;rw[List.length_map];omega)) ?_
      conv=>whnf
      repeat (first
       | (refine ab (T':=aD B 1 0 dq) (by first|exact rfl|exact al (by omega)|exact an _|exact ae _ (by omega)) ?_;conv=>whnf)
       | (refine ab (T':=[]) (by exact af hB rfl) ?_;conv=>whnf))
      subst o5;rw[eK (B:=B) (k:=k) (n:=(aA row).length) (ls:=l3) (j:=71) (by omega) (by omega),eK (B:=B) (k:=k) (n:=(aA row).length) (ls:=l3) (j:=73) (by omega) (by omega)];have CZ:(aW l3).set k (aA row)=aW l3:=ka (by unfold aW;rw[List.getElem?_map,jR];rfl);have ua:(aW l3).length=R.length:=by unfold aW;rw[List.length_map,v7.len]
      refine jw (B:=B) (sz:=1) (ls:=aW l3) 73 _ (.bool true) (es:=(g::fl).map fun r=>[aj r]) k 900002 (l:=aA row) hB (by omega) (by omega) (by omega) (by omega) (by omega) (by omega) rfl (by
       show 1+(fl.map fun r=>[aj r]).length=_;simp;omega) rfl rfl (fun j hj=>by
       repeat rw[aF,if_neg (by omega)]
       rfl) ?_
      rw[CZ];exact⟨rfl,_,aW l3,⟨l3,rfl,v7,fun j hj=>(jQ j (by omega)).trans (jP j hj),by rw[fz];rfl⟩,by rw[ua];unfold aW;rw[List.length_map,hD.len],rfl,rfl⟩
     ·conv=>whnf
      repeat (first
       | (refine ab (T':=aD B 1 0 dq) (by first|exact rfl|exact al (by omega)|exact an _|exact ae _ (by omega)) ?_;conv=>whnf)
       | (refine ab (T':=[]) (by exact af hB rfl) ?_;conv=>whnf))
      refine⟨?_,trivial⟩;conv=>whnf
      repeat (first
       | (refine ab (T':=aD B 1 0 dq) (by first|exact rfl|exact al (by omega)|exact an _|exact ae _ (by omega)) ?_;conv=>whnf)
       | (refine ab (T':=[]) (by exact af hB rfl) ?_;conv=>whnf))
      refine⟨?_,trivial⟩;conv=>whnf
      repeat (first
       | (refine ab (T':=aD B 1 0 dq) (by first|exact rfl|exact al (by omega)|exact an _|exact ae _ (by omega)) ?_;conv=>whnf)
       | (refine ab (T':=[]) (by exact af hB rfl) ?_;conv=>whnf))
      refine ai Ex ?_;conv=>whnf
      repeat (first
       | (refine ab (T':=aD B 1 0 dq) (by first|exact rfl|exact al (by omega)|exact an _|exact ae _ (by omega)) ?_;conv=>whnf)
       | (refine ab (T':=[]) (by exact af hB rfl) ?_;conv=>whnf))
      have Ew:=mK fl rfl;refine ar rfl ?_;conv=>whnf
      refine aR (by rw[Bool.and_eq_true];exact⟨da (fun _=>⟨rfl,rfl⟩) _,rfl⟩) ?_;conv=>whnf
      refine aR (decide_eq_true (by
       show(1+(fl.map fun r=>[aj r]).length)*24<=140737488355328;rw[List.length_map];omega)) ?_
      conv=>whnf
      repeat (first
       | (refine ab (T':=aD B 1 0 dq) (by first|exact rfl|exact al (by omega)|exact an _|exact ae _ (by omega)) ?_;conv=>whnf)
       | (refine ab (T':=[]) (by exact af hB rfl) ?_;conv=>whnf))
      subst o5;rw[eK (B:=B) (k:=k) (n:=(aA row).length) (ls:=l3) (j:=71) (by omega) (by omega),eK (B:=B) (k:=k) (n:=(aA row).length) (ls:=l3) (j:=73) (by omega) (by omega)];have CZ:(aW l3).set k (aA row)=aW l3:=ka (by unfold aW;rw[List.getElem?_map,jR];rfl);have ua:(aW l3).length=R.length:=by unfold aW;rw[List.length_map,v7.len]
      refine jw (B:=B) (sz:=1) (ls:=aW l3) 73 _ (.bool true) (es:=(g::fl).map fun r=>[aj r]) k 900002 (l:=aA row) hB (by omega) (by omega) (by omega) (by omega) (by omega) (by omega) rfl (by
       show 1+(fl.map fun r=>[aj r]).length=_;simp;omega) rfl rfl (fun j hj=>by
       repeat rw[aF,if_neg (by omega)]
       rfl) ?_
      rw[CZ];exact⟨rfl,_,aW l3,⟨l3,rfl,v7,fun j hj=>(jQ j (by omega)).trans (jP j hj),by rw[fz];rfl⟩,by rw[ua];unfold aW;rw[List.length_map,hD.len],rfl,rfl⟩
    ·conv=>whnf
     repeat (first
      | (refine ab (T':=aD B 1 0 dq) (by first|exact rfl|exact al (by omega)|exact an _|exact ae _ (by omega)) ?_;conv=>whnf)
      | (refine ab (T':=[]) (by exact af hB rfl) ?_;conv=>whnf))
     refine⟨?_,trivial⟩;conv=>whnf
     repeat (first
      | (refine ab (T':=aD B 1 0 dq) (by first|exact rfl|exact al (by omega)|exact an _|exact ae _ (by omega)) ?_;conv=>whnf)
      | (refine ab (T':=[]) (by exact af hB rfl) ?_;conv=>whnf))
     refine⟨?_,trivial⟩;conv=>whnf
     repeat (first
      | (refine ab (T':=aD B 1 0 dq) (by first|exact rfl|exact al (by omega)|exact an _|exact ae _ (by omega)) ?_;conv=>whnf)
      | (refine ab (T':=[]) (by exact af hB rfl) ?_;conv=>whnf))
     refine⟨?_,trivial⟩;conv=>whnf
     repeat (first
      | (refine ab (T':=aD B 1 0 dq) (by first|exact rfl|exact al (by omega)|exact an _|exact ae _ (by omega)) ?_;conv=>whnf)
      | (refine ab (T':=[]) (by exact af hB rfl) ?_;conv=>whnf))
     refine ai Ex ?_;conv=>whnf
     repeat (first
      | (refine ab (T':=aD B 1 0 dq) (by first|exact rfl|exact al (by omega)|exact an _|exact ae _ (by omega)) ?_;conv=>whnf)
      | (refine ab (T':=[]) (by exact af hB rfl) ?_;conv=>whnf))
     have Ew:=mK fl rfl;refine ar rfl ?_;conv=>whnf
     refine aR (by rw[Bool.and_eq_true];exact⟨da (fun _=>⟨rfl,rfl⟩) _,rfl⟩) ?_;conv=>whnf
     refine aR (decide_eq_true (by
      show(1+(fl.map fun r=>[aj r]).length)*24<=140737488355328;rw[List.length_map];omega)) ?_
     conv=>whnf
     repeat (first
      | (refine ab (T':=aD B 1 0 dq) (by first|exact rfl|exact al (by omega)|exact an _|exact ae _ (by omega)) ?_;conv=>whnf)
      | (refine ab (T':=[]) (by exact af hB rfl) ?_;conv=>whnf))
     subst o5;rw[eK (B:=B) (k:=k) (n:=(aA row).length) (ls:=l3) (j:=71) (by omega) (by omega),eK (B:=B) (k:=k) (n:=(aA row).length) (ls:=l3) (j:=73) (by omega) (by omega)];have CZ:(aW l3).set k (aA row)=aW l3:=ka (by unfold aW;rw[List.getElem?_map,jR];rfl);have ua:(aW l3).length=R.length:=by unfold aW;rw[List.length_map,v7.len]
     refine jw (B:=B) (sz:=1) (ls:=aW l3) 73 _ (.bool true) (es:=(g::fl).map fun r=>[aj r]) k 900002 (l:=aA row) hB (by omega) (by omega) (by omega) (by omega) (by omega) (by omega) rfl (by
      show 1+(fl.map fun r=>[aj r]).length=_;simp;omega) rfl rfl (fun j hj=>by
      repeat rw[aF,if_neg (by omega)]
      rfl) ?_
     rw[CZ];exact⟨rfl,_,aW l3,⟨l3,rfl,v7,fun j hj=>(jQ j (by omega)).trans (jP j hj),by rw[fz];rfl⟩,by rw[ua];unfold aW;rw[List.length_map,hD.len],rfl,rfl⟩
 ·rintro l2 ⟨FL,uc,jP,ma,_⟩
  have ma:dF c (aB c) (Rk::rest) t=none:=ma;clear CG oA kx;obtain⟨ko,vk⟩:∃ ko,ko=vH k (aA row).length l2:=⟨_,rfl⟩;have oA:∀ j:Nat,j<B->j≠900002->a7 (aQ j) (cu B 1 0 ko)=cu B 1 0 ko:=fun j hj h9=>by rw[vk];exact eK hj h9
  have kx:∀ z:Int,z=0->(cu B 1 0 ko)[k+z.toNat]?=some [V.sl 900002 1 0 (aA row).length]:=fun z hz=>by
   subst hz;rw[iA,vk,vH,List.getElem?_set,if_pos (by simp),if_pos (by unfold aW;have:=FL.len;simp;omega)];rfl
  rw[<- vk];conv=>whnf
  repeat (first
   | (refine ab (T':=aD B 1 0 ko) (by first|exact rfl|exact al (by omega)|exact an _|exact ae _ (by omega)) ?_;conv=>whnf)
   | (refine ab (T':=[]) (by exact af hB rfl) ?_;conv=>whnf))
  refine ak (fun h=>absurd h (by simp)) (fun _=>?_);conv=>whnf
  repeat (first
   | (refine ab (T':=aD B 1 0 ko) (by first|exact rfl|exact al (by omega)|exact an _|exact ae _ (by omega)) ?_;conv=>whnf)
   | (refine ab (T':=[]) (by exact af hB rfl) ?_;conv=>whnf))
  rw[CA (k:=80) (by decide) (by decide) rfl (by omega)];conv=>whnf
  repeat (first
   | (refine ab (T':=aD B 1 0 ko) (by first|exact rfl|exact al (by omega)|exact an _|exact ae _ (by omega)) ?_;conv=>whnf)
   | (refine ab (T':=[]) (by exact af hB rfl) ?_;conv=>whnf))
  have BG:∀ o1 o2 o3 o4:Obj,get ((1000000,o1)::(900002,o2)::(5,o3)::(4,o4)::aD B 1 0 ko) 81=none:=fun o1 o2 o3 o4=>by
   rw[aF,if_neg (by decide),aF,if_neg (by decide),aF,if_neg (by decide),aF,if_neg (by decide)];exact ku (by omega)
  rw[BG];conv=>whnf
  repeat (first
   | (refine ab (T':=aD B 1 0 ko) (by first|exact rfl|exact al (by omega)|exact an _|exact ae _ (by omega)) ?_;conv=>whnf)
   | (refine ab (T':=[]) (by exact af hB rfl) ?_;conv=>whnf))
  rw[oA 80 (by omega) (by omega),oA 81 (by omega) (by omega)];refine ak (fun _=>?_) (fun h=>absurd h (by simp));conv=>whnf
  repeat (first
   | (refine ab (T':=aD B 1 0 ko) (by first|exact rfl|exact al (by omega)|exact an _|exact ae _ (by omega)) ?_;conv=>whnf)
   | (refine ab (T':=[]) (by exact af hB rfl) ?_;conv=>whnf))
  rw[kx 0 rfl];conv=>whnf
  repeat (first
   | (refine ab (T':=aD B 1 0 ko) (by first|exact rfl|exact al (by omega)|exact an _|exact ae _ (by omega)) ?_;conv=>whnf)
   | (refine ab (T':=[]) (by exact af hB rfl) ?_;conv=>whnf))
  refine aE (ds:=[t.d]) KQ rfl rfl ?_;conv=>whnf
  repeat (first
   | (refine ab (T':=aD B 1 0 ko) (by first|exact rfl|exact al (by omega)|exact an _|exact ae _ (by omega)) ?_;conv=>whnf)
   | (refine ab (T':=[]) (by exact af hB rfl) ?_;conv=>whnf))
  refine ar rfl ?_;conv=>whnf
  repeat (first
   | (refine ab (T':=aD B 1 0 ko) (by first|exact rfl|exact al (by omega)|exact an _|exact ae _ (by omega)) ?_;conv=>whnf)
   | (refine ab (T':=[]) (by exact af hB rfl) ?_;conv=>whnf))
  refine ar (by simp[aC.len,aA]) ?_;conv=>whnf
  repeat (first
   | (refine ab (T':=aD B 1 0 ko) (by first|exact rfl|exact al (by omega)|exact an _|exact ae _ (by omega)) ?_;conv=>whnf)
   | (refine ab (T':=[]) (by exact af hB rfl) ?_;conv=>whnf))
  refine aR (decide_eq_true (by
   show((aA row).length+1)*8<=140737488355328;simp[aA];omega)) ?_
  conv=>whnf
  repeat (first
   | (refine ab (T':=aD B 1 0 ko) (by first|exact rfl|exact al (by omega)|exact an _|exact ae _ (by omega)) ?_;conv=>whnf)
   | (refine ab (T':=[]) (by exact af hB rfl) ?_;conv=>whnf))
  refine ak (fun _=>?_) (fun h=>absurd h (by simp));conv=>whnf
  repeat (first
   | (refine ab (T':=aD B 1 0 ko) (by first|exact rfl|exact al (by omega)|exact an _|exact ae _ (by omega)) ?_;conv=>whnf)
   | (refine ab (T':=[]) (by exact af hB rfl) ?_;conv=>whnf))
  rw[kx 0 rfl];conv=>whnf
  repeat (first
   | (refine ab (T':=aD B 1 0 ko) (by first|exact rfl|exact al (by omega)|exact an _|exact ae _ (by omega)) ?_;conv=>whnf)
   | (refine ab (T':=[]) (by exact af hB rfl) ?_;conv=>whnf))
  refine Ag ?_;conv=>whnf
  refine aR (by rfl) ?_;conv=>whnf
  repeat (first
   | (refine ab (T':=aD B 1 0 ko) (by first|exact rfl|exact al (by omega)|exact an _|exact ae _ (by omega)) ?_;conv=>whnf)
   | (refine ab (T':=[]) (by exact af hB rfl) ?_;conv=>whnf))
  refine dR ?_;have SM:(aW l2).length=R.length:=by unfold aW;rw[List.length_map,FL.len]
  have hlen:(aA row).length+1=(aA (row ++ [dm t])).length:=by simp[aA]
  refine tg (B:=B) (sz:=1) (ls:=aW l2) [.vs [],.bool false] k 81 (l:=aA (row ++ [dm t])) hB (by omega) rfl (by omega) (by omega) ?_ ?_ ?_ ?_
  ·show some (Obj.arr 1 (aC.vv ((cu B 1 0 ko).set k [V.sl 81 1 0 ((aA row).length+1)])))=_
   rw[Ar rfl,vk,vH,List.set_set,hlen];rfl
  ·show some (Obj.arr 1 (aC.dd (aA row ++ [[i64 (dm t)]])))=_
   simp[aA]
  ·intro j hj
   repeat rw[aF,if_neg (by omega)]
   rw[vk,vH];have:=Ac (B:=B) (sz:=1) (rows:=(aW l2).map Rw.bw) (v:=k) (K:=900002) (n:=(aA row).length) (K':=81) (n':=(aA (row ++ [dm t])).length) j;rw[List.set_set]at this;exact this
  ·have hs:(aW l2).set k (aA (row ++ [dm t]))=aW (l2.set k (row ++ [dm t])):=by unfold aW;rw[List.map_set]
   rw[hs];refine⟨rfl,_,aW (l2.set k (row ++ [dm t])),⟨_,rfl,FL.add uc ht h1 (by rw[hd];exact ma),fun j hj=>?_,by rw[ma];rfl⟩,?_,rfl,rfl⟩
   ·rw[List.getElem?_set,if_neg (by omega)]
    exact jP j hj
   ·unfold aW
    rw[List.length_map,List.length_map,List.length_set,FL.len,hD.len]
theorem Eb(c:ao)(hR:WR c)(R:List (List Int))(By:R.length<=40)(M8:∀ r∈R,r.length<1000000):∀ rest,wU c R rest
 | []=>Ad c R By
 | Rk::rest=>ym c hR R By M8 Rk rest (Eb c hR R By M8 rest)
end Go.PX
