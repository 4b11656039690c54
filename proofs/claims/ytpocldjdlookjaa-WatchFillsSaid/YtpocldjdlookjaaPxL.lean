import Derived.Test.YtpocldjdlookjaaPxK
import Derived.Test.YtpocldjdlookjaaPxJ
set_option linter.all false
set_option maxRecDepth 10000
namespace Go.PX
mutual
def cL:D->D
 | .agg cs=>.agg (j8 cs)
 | .tup cs=>.tup (j8 cs)
 | .vs es=>.vs (iq es)
 | .nils=>.vs []
 | .ref cs=>.ref (j8 cs)
 | .bool b=>.bool b
 | .int k n=>.int k n
 | .str s=>.str s
 | .nilp=>.nilp
 | .mv cc=>.mv cc
 | .nilm=>.nilm
 | .clo f bS=>.clo f bS
 | .mth f first=>.mth f first
 | .nilf=>.nilf
 | .ifc t v=>.ifc t v
 | .nili=>.nili
def j8:List D->List D
 | []=>[]
 | c::r=>cL c::j8 r
def iq:List (List D)->List (List D)
 | []=>[]
 | c::r=>j8 c::iq r
end
theorem oJ:∀ l:List D,(j8 l).length=l.length
 | []=>rfl
 | c::r=>by simp only[j8,List.length_cons,oJ r]
theorem oI:∀ l:List (List D),(iq l).length=l.length
 | []=>rfl
 | c::r=>by simp only[iq,List.length_cons,oI r]
mutual
theorem bC.cL{F:Nat->Nat}{w:World}:∀ (a:D) (v:Value),bC F w a v->bC F w (cL a) v
 | .agg cs,_,hr=>by
  obtain⟨l,rfl,hl⟩:=hr;exact⟨l,rfl,aY.cL cs _ hl⟩
 | .tup cs,_,hr=>by
  obtain⟨l,rfl,hl⟩:=hr;exact⟨l,rfl,aY.cL cs _ hl⟩
 | .vs es,_,hr=>by
  obtain⟨a,len,cap,rfl,hl,hc,he⟩:=hr;refine⟨a,len,cap,rfl,by rw[oI];exact hl,hc,fun eA=>?_⟩;obtain⟨b,off,sz,ha,hs,mQ⟩:=he (by rintro rfl;exact eA rfl);exact⟨b,off,sz,ha,hs,cF.cL es b off sz mQ⟩
 | .nils,_,hr=>by
  have hx:_=Value.slice none 0 0:=hr;subst hx;exact⟨none,0,0,rfl,rfl,Nat.le_refl _,fun h=>absurd rfl h⟩
 | .ref cs,_,hr=>by
  obtain⟨b,off,rfl,hc⟩:=hr;exact⟨b,off,rfl,cf.cL cs b off hc⟩
 | .bool _,_,hr=>hr
 | .int _ _,_,hr=>hr
 | .str _,_,hr=>hr
 | .nilp,_,hr=>hr
 | .mv _,_,hr=>hr
 | .nilm,_,hr=>hr
 | .clo _ _,_,hr=>hr
 | .mth _ _,_,hr=>hr
 | .nilf,_,hr=>hr
 | .ifc _ _,_,hr=>hr
 | .nili,_,hr=>hr
theorem aY.cL{F:Nat->Nat}{w:World}:∀ (cs:List D) (l:List Value),aY F w cs l->aY F w (j8 cs) l
 | [],_,hr=>hr
 | c::r,_,hr=>by
  obtain⟨x,l',rfl,hc,hl⟩:=hr;exact⟨x,l',rfl,bC.cL c x hc,aY.cL r l' hl⟩
theorem cf.cL{F:Nat->Nat}{w:World}:∀ (cs:List D) (b off:Nat),cf F w b off cs->cf F w b off (j8 cs)
 | [],_,_,_=>trivial
 | c::r,b,off,hr=>by
  obtain⟨hf,⟨x,hx,hc⟩,hl⟩:=hr;exact⟨hf,⟨x,hx,bC.cL c x hc⟩,cf.cL r b (off+1) hl⟩
theorem cF.cL{F:Nat->Nat}{w:World}:∀ (es:List (List D)) (b off sz:Nat),cF F w b off sz es->cF F w b off sz (iq es)
 | [],_,_,_,_=>trivial
 | e::r,b,off,sz,hr=>by
  obtain⟨hn,he,hl⟩:=hr;exact⟨by rw[oJ];exact hn,cf.cL e b off he,cF.cL r b (off+sz) sz hl⟩
end
theorem cy.cL{P:Program}{f:FuncId}{ds:List D}{r:D}(h:cy P f ds r){r':D}(hr:PX.cL r=r'):cy P f ds r':=by
 subst hr;intro σ Y s;obtain⟨h1,h2⟩:=h Y s;refine⟨h1,fun cx hY L F aX w hh hv=>(h2 cx hY L F aX w hh hv).mono ?_⟩;rintro e w' ⟨x,rfl,v,h',s',L',F',⟨⟨rfl,rfl⟩,rfl⟩,so,hx,tr,hp⟩;exact⟨x,rfl,_,_,_,L',F',⟨⟨rfl,rfl⟩,rfl⟩,so,bC.cL r x hx,tr,hp⟩
section
variable {P : Program} {σ : Type} {Y : Hd σ}
theorem Ip{args0:List V}{h0:av}{s:σ}{Q:V->av->σ->Prop}(tb:List Nat){e:Env}{h:av}{d:Option Nat}{args:List V}{K:St σ->Prop}(hy:Y.y args0 h0 s Q)
  (cr:og (br tb (d.getD 0)) args0=args) (eI:gb (br tb (d.getD 0)) h 1000000 tb h0) (pF:e8 tb=true) (rR:Nat.ble tb.length 1000=true)
  (hq:∀ v h1 s',Q v h1 s'->g7 tb d v h1=true/\bk (bZ tb d v h1) e h fun e h=>K ⟨e,h,s'⟩):Io P Y ⟨e,h,s⟩ d args K:=by
 refine Hx tb hy cr eI pF rR fun v h1 s' hv=>?_;obtain⟨h2,h3⟩:=hq v h1 s' hv;refine⟨h2,?_⟩;rw[cj s']at h3;have hs:(aK (⟨e,h,s'⟩:St σ) (bZ tb d v h1)).s=s':=cT _ _;generalize aK (⟨e,h,s'⟩:St σ) (bZ tb d v h1)=st at h3 hs;obtain⟨e1,h1,s1⟩:=st;simp only at hs;subst hs;exact h3
end
theorem vF{P:Program}{σ:Type}{Y:Hd σ}{st:St σ}{d:Option Nat}{f:FuncId}{args args':List V}{K:St σ->Prop}(h:∀ (yv:Option Nat) (L:Loc) (F:Nat->Nat) (w:World) (l:List Value),aq yv L F w args l->aq yv L F w args' l)(hc:eE P Y st d f args' K):eE P Y st d f args K:=by
 obtain⟨h1,h2⟩:=hc;exact⟨h1,fun cx hY r m L F a w aX hg hd hr=>h2 cx hY r m L F a w aX hg hd (h _ _ _ _ _ hr)⟩
theorem lO{P:Program}{σ:Type}{Y:Hd σ}{st:St σ}{d:Option Nat}{f:FuncId}{a:V}{r:List V}{K:St σ->Prop}(hc:eE P Y st d f (a :: .d (.vs [])::r) K):eE P Y st d f (a :: .d .nils::r) K:=by
 refine vF (fun yv L F w l h=>?_) hc;obtain⟨x,l',rfl,h1,y,Ua,rfl,h2,h3⟩:=h;exact⟨x,_,rfl,h1,y,_,rfl,bC.cL .nils y h2,h3⟩
def FT.less(ft:FT)(id:Nat):FT:=⟨ft.ks,cut ft.tb id⟩
theorem vf:∀ l:List D,iv (inj l)=true
 | []=>rfl
 | x::r=>by simp only[inj,iv,gX,vf r];rfl
theorem lj{l:List Nat}{K:List Nat->Prop}(l':List Nat)(h:l=l')(k:cO l' K):cO l K:=by subst h;exact k
theorem mh:∀ l:List D,bm (inj l) = []
 | []=>rfl
 | x::r=>by simp only[inj,bm,bq,mh r];rfl
theorem jq:∀ a b:List V,bm (a++b)=bm a++bm b
 | [],b=>rfl
 | x::r,b=>by simp only[List.cons_append,bm,jq r b,List.append_assoc]
theorem iD(l:List (List D))(vs:List (List V)):bm (aO l++vs).flatten=bm vs.flatten:=by
 rw[List.flatten_append,jq,cI,mh];rfl
def FT.more(ft:FT)(id:Nat)(l:List Nat):FT:=⟨ft.ks,ft.tb.map fun p=>match Nat.beq p.1 id with
 | true=>(p.1,⟨p.2.made++l,p.2.ev⟩)
 | false=>p⟩
theorem oY:∀ (l:List V) (i k:Nat) (v:V),l[k]?=some v->get (dO i l) (i+k)=some v
 | [],_,k,v,h=>by simp at h
 | a::r,i,0,v,h=>by
  simp at h;subst h;simp[dO,get]
 | a::r,i,k+1,v,h=>by
  have eA:Nat.beq i (i+(k+1))=false:=by
   rw[Bool.eq_false_iff];intro e;have:=Nat.eq_of_beq_eq_true e;omega
  simp only[dO,get,eA];rw[show i+(k+1)=i+1+k by omega];exact oY r (i+1) k v (by simpa using h)
theorem aq.of{yv:Option Nat}{L:Loc}{F:Nat->Nat}{w:World}:∀ {l:List V} {aX:List Value},l.length=aX.length->(∀ (k:Nat) (v:V),l[k]?=some v -> ∃ x,aX[k]?=some x/\a6 yv L F w v x)->aq yv L F w l aX
 | [],[],_,_=>rfl
 | [],_::_,h,_=>by simp at h
 | _::_,[],h,_=>by simp at h
 | v::l,x::aX,h,hk=>by
  obtain⟨y,hy,hr⟩:=hk 0 v rfl;simp at hy;subst hy;exact⟨x,aX,rfl,hr,aq.of (by simpa using h) fun k u hu=>by simpa using hk (k+1) u (by simpa using hu)⟩
theorem nO{σ:Type}{l l':List V}{h h':av}{s:σ}{Q:V->av->σ->Prop}(hw:Wk (⟨dO 0 l,h,s⟩:St σ) ⟨dO 0 l',h',s⟩)(hlen:l'.length=l.length)(hl:Nat.ble l.length 1000=true)(hr:pJ l' h' s Q):pJ l h s Q:=by
 obtain⟨hr⟩:=hr;refine⟨fun cx L F aX w hh hv=>?_⟩;have BL:aX.length=l.length:=by simpa using hv.length
 have hl:=Nat.le_of_ble_eq_true hl;have hg:Good { cx with pρ:=L.ρ,pκ:=L.κ,base:=[] } none [] L F ⟨dO 0 l,h,s⟩ { tmps:=aX.toArray,defers:=[] } w:=by
  refine⟨⟨hh.hg,hh.iW,hh.fresh,hh.obj,hh.own,hh.inj⟩,fun t v ht=>?_,rfl,(fun b hb=>by cases hb),List.nodup_nil,(fun l hl=>by cases hl),fun _ _=>⟨rfl,rfl⟩,by simp;omega⟩;obtain⟨k,hk,C1⟩:=nU ht;rw[Nat.zero_add]at hk;subst hk;obtain⟨x,hx,CY⟩:=hv.get t C1;exact⟨x,by simpa using hx,CY⟩
 obtain⟨L1,F1,db,tr⟩:=hw _ _ _ _ _ _ _ hg;have J1:aq cx.yv L1 F1 w l' aX:=by
  refine aq.of (by omega) fun k v hk=>?_;obtain⟨x,hx,CY⟩:=db.env k v (by simpa using oY l' 0 k v hk);exact⟨x,by simpa using hx,CY⟩
 have CO:bo cx L1 F1 h' s w:=⟨db.heap.hg,db.heap.iW,db.heap.fresh,db.heap.obj,db.heap.own,db.heap.inj⟩;obtain⟨v,h2,L2,F2,q1,q2,q3,q4,q5⟩:=hr cx L1 F1 aX w CO J1;refine⟨v,h2,L2,F2,q1,q2,q3,Tr.trans tr q4,fun i hi=>?_⟩;obtain⟨p1,p2⟩:=q5 i hi;obtain⟨p3,p4⟩:=db.lG i hi;exact⟨p1.trans p3,p2.trans p4⟩
theorem mf(ids:List Nat):∀ (h:av) (i:Nat),i∈cv (aP ids h)->i∈ids
 | [],i,hi=>by simp[aP,cv]at hi
 | (k,o)::r,i,hi=>by
  simp only[aP]at hi;split at hi
  ·rename_i hk
   simp only[cv,List.mem_cons]at hi;rcases hi with rfl|hi
   ·exact fW.1 hk
   ·exact mf ids r i hi
  ·exact mf ids r i hi
theorem Good.Ef{σ:Type}{cx:Cx σ}{r:Option Nat}{m:List Nat}{L:Loc}{F:Nat->Nat}{st:St σ}{a:Act}{w:World}(hg:Good cx r m L F st a w){h:av}(gY:cM h st.heap)(n:Nat) :
  ∃ F1,Good cx r m L F1 (aK st (pS (cv h))) a w/\Tr F w F1 w /\ ∀ args aX,aq cx.yv L F w args aX->aq cx.yv L F1 w (ga (fm h n) args) aX:=by
 have e7:bo cx L F h st.s w:=(hg.sub (e:=st.env) (h:=h) (fun _ _ h=>h) gY).heap;have tr:=fT e7;have q9:∀ b,cx.C st.s b->dP L F h w b=F b:=fun b hb=>ll e7 hb;have tQ:∀ id o,get st.heap id=some o->id∉cv h->aN L id o->dP L F h w (L.ρ id)=F (L.ρ id):=by
  intro id o hi hn hb;refine eQ ?_;rintro ⟨j,p,hj,gJ,jN⟩;have:=hg.heap.inj j id p o (gY j p hj) hi gJ hb jN;subst this;exact hn (jU hj)
 have As:=dX e7;have mM:=nB e7 n;generalize dP L F h w=F1 at tr q9 tQ As mM;rw[fO];have kQ:∀ i o,get (kJ st.heap (cv h)) i=some o->i∉cv h/\get st.heap i=some o:=by
  intro i o hi;rw[gR]at hi;split at hi
  ·cases hi
  ·rename_i hn;exact⟨hn,hi⟩
 refine⟨F1,⟨⟨cx.eV hg.heap.hg tr As fun b hb=>⟨rfl,q9 b hb⟩,hg.heap.iW,As,?_,?_,?_⟩,?_,hg.sI,hg.oe,hg.uy,hg.lk,hg.lG,hg.sD⟩,tr,fun args aX hr=>aq.eB tr mM args aX hr⟩
 ·intro i o hi
  exact bG.mono tr i o (fun _ _=>⟨rfl,rfl⟩) ⟨rfl,rfl⟩ (fun _=>rfl) (hg.heap.obj i o (kQ i o hi).2)
 ·intro i o hi hb
  obtain⟨hn,h0⟩:=kQ i o hi;rw[tQ i o h0 hn hb];exact hg.heap.own i o h0 hb
 ·intro i j o p hi hj kj gJ he
  exact hg.heap.inj i j o p (kQ i o hi).2 (kQ j p hj).2 kj gJ he
 ·intro t v ht
  obtain⟨x,hx,hr⟩:=hg.env t v ht;exact⟨x,hx,a6.mono tr v x (fun _ _=>⟨rfl,rfl⟩) hr⟩
theorem xz{P:Program}{f:FuncId}{ws:List Wr}(n:Nat)(ids:List Nat){e:Env}{h:av}{d:Option Nat}{args:List V}(ho:iw P e (kJ h ids) d f (ga (fm (aP ids h) n) args) ws) :
  iw P e h d f args (pS (cv (aP ids h))++ws):=by
 refine⟨ho.1,fun {σ} cx sr r m L F st a w aX he hh hg Gx hr=>?_⟩;have gY:cM (aP ids h) st.heap:=fun i o hi=>hh i o (dS ids h i o hi);obtain⟨F1,db,vh,LX⟩:=hg.Ef gY n;rw[jF];refine(ho.2 cx sr r m L F1 (aK st (pS (cv (aP ids h)))) a w aX (by rw[fO];exact he) (fun i o hi=>?_) db Gx (LX _ _ hr)).mono ?_
 ·rw[fO]
  rw[gR]at hi;split at hi
  ·cases hi
  ·rename_i hn
   show get (kJ st.heap (cv (aP ids h))) i=some o;rw[gR,if_neg fun hm=>hn (mf ids h i hm)];exact hh i o hi
 ·rintro en w' ⟨x,rfl,L',F',dY,lL⟩
  exact⟨x,rfl,L',F',dY,Tr.trans vh lL⟩
theorem oi{P:Program}{f:FuncId}(n:Nat)(ids:List Nat){e:Env}{h:av}{d:Option Nat}{args:List V}{K:List Wr->Prop}
  (hk:c8 P e (kJ h ids) d f (ga (fm (aP ids h) n) args) fun ws=>K (pS (cv (aP ids h))++ws)):c8 P e h d f args K:=by
 obtain⟨ws,h1,h2⟩:=hk;exact⟨_,h1,xz n ids h2⟩
theorem lP{P:Program}{f:FuncId}{e:Env}{h:av}{d:Option Nat}{args args':List V}{K:List Wr->Prop}(hr:∀ (yv:Option Nat) (L:Loc) (F:Nat->Nat) (w:World) (l:List Value),aq yv L F w args l->aq yv L F w args' l)
  (hk:c8 P e h d f args' K):c8 P e h d f args K:=by
 obtain⟨ws,h1,h2⟩:=hk;exact⟨ws,h1,h2.1,fun {σ} cx sr r m L F st a w aX he hh hg Gx hv=>h2.2 cx sr r m L F st a w aX he hh hg Gx (hr _ _ _ _ _ hv)⟩
theorem Bm{yv:Option Nat}{L:Loc}{F:Nat->Nat}{w:World}{g:Nat->Option DO}{id sz n:Nat}{d:D}{x:Value}(h:a6 yv L F w (eB g (.sl id sz 0 n)) x)(hv:eP g (.sl id sz 0 n)=some d):bC F w d x:=by
 rw[Hj hv]at h;exact h
end Go.PX
namespace Go.PX
open Go.Proofs
def dh(c:ao)(set:Int)(t:ag)(s:Slot):Nat->List Int->Nat->List (List Int×ag)
 | 0,p,_=>if (kV c set t s p).1=0 then [(p,aZ c t p)] else []
 | left+1,p,start=>(List.range' start (c.aL.length-start)).flatMap fun(i:Nat)=>dh c set t s left (p ++ [(i:Int)]) (i+1)
def bQ(c:ao)(set:Int)(t:ag):List (List Int×ag):=dh c set t (bf c t) (bf c t).aL.toNat [] 0
def rT(x:List Int×ag):List V×av:=([.sl 1000000 1 0 x.1.length,.d x.2.d],[(1000000,.arr 1 (.dd (aA x.1)))])
def Gs(c:ao)(set:Int)(t:ag):List V:=[.ptr 1000000 0,.d (.ref [bh c set]),.d (.ref t.cells),.ptr 1000001 0,.ptr 1000002 0]
def xh(c:ao)(set:Int)(t:ag)(start:Nat):List V:=[.d (i64 start),.ptr 1000000 0,.d (.ref [bh c set]),.d (.ref t.cells),.ptr 1000001 0,.ptr 1000002 0]
def yr(c:ao)(set:Int)(t:ag)(k n:Nat)(p:List Int):av:=
 [(1000000,.box (.vv [.sl k 1 0 n])),(1000001,.box (.vv [.yld])),(1000002,.box (.vv [.clo 94 (Gs c set t)])),(k,.arr 1 (.dd (aA p)))]
def Bx:FT:=⟨IB.ks,cut IB.tb 3⟩
def Qu:RT:=match get IB.tb 3 with
 | some r=>r
 | none=>⟨[],[]⟩
def Bk(c:ao)(set:Int)(t:ag)(s:Slot)(left:Nat):Prop:=
 ∀ (start:Nat) (p:List Int),p.length+left=s.aL.toNat->start<=c.aL.length->pK c p -> ∀ {σ:Type} (Y:Hd σ) (s0:σ) (rest:List (List V×av)) (Q:σ->Prop),
  iterate Y.np ((dh c set t s left p start).map rT++rest) s0 Q->zG Try.prog Y 94 (xh c set t start) (yr c set t 1000003 p.length p) s0 fun v h' s'=>
   ∃ q,h'=yr c set t 2000000 q.length q/\((v = .d (.bool true)/\q=p/\iterate Y.np rest s' Q)\/(v = .d (.bool false)/\Q s'))
theorem Aj{c:ao}(hR:WR c){set:Int}{t:ag}{s:Slot}(hs:c.aS[t.slot.toNat]?=some s)(ht:0<=t.slot)(sW:DM t)(wc:1<=s.aL/\s.aL<=2):Bk c set t s 0:=by
 intro start p hp kX nj σ Y s0 rest Q tX;refine ic mixed aI Try.func94 rfl (ft:=Bx) (args:=xh c set t start) (show zK Bx Try.f94 6=true from by decide +kernel) ?_;generalize Y.np=Y at tX ⊢;conv=>whnf
 rw[show decide (0<=t.slot)=true from decide_eq_true ht,show(List.map Slot.cells c.aS)[t.slot.toNat]?=some s.cells from by simp[hs]];conv=>whnf
 have vn:(aA p).length=p.length:=by simp[aA]
 refine ak (fun h0=>?_) (fun h0=>absurd h0 (by simp;omega));conv=>whnf
 refine a8 (ds:=[bh c set,t.d,aj p]) (MN c hR set t s hs ht p nj (by omega)) rfl 1 (aV (g:=_) rfl (aV rfl (aV (bI rfl (by simp[aA])) rfl))) ?_;conv=>whnf
 refine x6 mixed aI Qu 9 (by decide +kernel) (by decide +kernel) ?_;conv=>whnf
 have tW:dh c set t s 0 p start=if (kV c set t s p).1=0 then [(p,aZ c t p)] else []:=rfl
 refine ak (fun h1=>?_) (fun h1=>?_)
 ·have h1:¬ (kV c set t s p).1=0:=by simpa using h1
  rw[tW,if_neg h1]at tX;conv=>whnf
  refine bD [1000003] [.d (.bool true)] (yr c set t 2000000 p.length p) rfl ⟨rfl,rfl,rfl,rfl,trivial⟩ rfl ?_;exact⟨p,rfl,.inl ⟨rfl,rfl,tX⟩⟩
 ·have h1:(kV c set t s p).1=0:=by simpa using h1
  rw[tW,if_pos h1]at tX;conv=>whnf
  refine cW (ds:=[bh c set,t.d,aj p]) (MO c hR set t sW p (by omega)) rfl 1 (aV (g:=_) rfl (aV rfl (aV (bI rfl (by simp[aA])) rfl))) ?_;conv=>whnf
  refine Ip [1000003] (args0:=(rT (p,aZ c t p)).1) (h0:=(rT (p,aZ c t p)).2) tX rfl ⟨_,_,rfl,rfl,rfl⟩ rfl rfl ?_;rintro v h1 s' ⟨rfl,hv⟩;rcases hv with⟨rfl,hi⟩|⟨rfl,hq⟩
  ·refine⟨rfl,?_⟩
   conv=>whnf
   refine bD [1000003] [.d (.bool true)] (yr c set t 2000000 p.length p) rfl ⟨rfl,rfl,rfl,rfl,trivial⟩ rfl ?_;exact⟨p,rfl,.inl ⟨rfl,rfl,hi⟩⟩
  ·refine⟨rfl,?_⟩
   conv=>whnf
   refine bD [1000003] [.d (.bool false)] (yr c set t 2000000 p.length p) rfl ⟨rfl,rfl,rfl,rfl,trivial⟩ rfl ?_;exact⟨p,rfl,.inr ⟨rfl,hq⟩⟩
theorem Ai{c:ao}(hR:WR c){set:Int}{t:ag}{s:Slot}(hs:c.aS[t.slot.toNat]?=some s)(ht:0<=t.slot)(wc:1<=s.aL/\s.aL<=2){left:Nat}(Ts:Bk c set t s left):Bk c set t s (left+1):=by
 intro start p hp kX nj σ Y s0 rest Q tX;refine ic mixed aI Try.func94 rfl (ft:=Bx) (args:=xh c set t start) (show zK Bx Try.f94 6=true from by decide +kernel) ?_;generalize Y.np=Y at tX ⊢;conv=>whnf
 rw[show decide (0<=t.slot)=true from decide_eq_true ht,show(List.map Slot.cells c.aS)[t.slot.toNat]?=some s.cells from by simp[hs]];conv=>whnf
 have vn:(aA p).length=p.length:=by simp[aA]
 have GG:=hR.aL;refine ak (fun h0=>absurd h0 (by simp;omega)) (fun h0=>?_);conv=>whnf
 have tW:dh c set t s (left+1) p start=(List.range' start (c.aL.length-start)).flatMap fun(i:Nat)=>dh c set t s left (p ++ [(i:Int)]) (i+1):=rfl;rw[tW]at tX;refine fM (T:=tys) aI (by exact au mixed aI (by decide +kernel)) (α:=Nat×σ)
  (fun x=>⟨[(1,.ptr 1000000 0),(2,.d (.ref [bh c set])),(3,.d (.ref t.cells)),(4,.ptr 1000001 0),(5,.ptr 1000002 0),(7,.d (.bool false)),(10,.d (i64 x.1))],yr c set t 900000 p.length p,x.2⟩)
  (fun x=>x.1<=c.aL.length/\iterate Y (((List.range' x.1 (c.aL.length-x.1)).flatMap fun(i:Nat)=>dh c set t s left (p ++ [(i:Int)]) (i+1)).map rT++rest) x.2 Q) (fun x=>c.aL.length-x.1) (start,s0)
  ((Wk.move 1000003 900000 rfl rfl).trans aw) ⟨kX,tX⟩ ?_
 clear tX kX s0;rintro ⟨i,s0⟩ ⟨hi,tX⟩;simp only at hi tX;conv=>whnf
 refine ak (fun h1=>?_) (fun h1=>?_)
 ·have h1:i<c.aL.length:=by have:=of_decide_eq_true h1;simp at this;omega
  obtain⟨m,CV⟩:∃ m,c.aL.length-i=m+1:=⟨c.aL.length-i-1,by omega⟩;rw[CV,List.range'_succ,List.flatMap_cons,List.map_append,List.append_assoc]at tX;conv=>whnf
  refine ar rfl ?_;conv=>whnf
  refine Fj.mk (by simp[aC.len,vn]) ?_;conv=>whnf
  refine aR (by simp[aC.len,aC.part,vn];omega) ?_;conv=>whnf
  refine bg (((i+1:Nat):Int)) (by(try dsimp only);omega) (wrap_i64 (by(try dsimp only);omega)) ?_;conv=>whnf
  have ih:=Ts (i+1) (p ++ [(i:Int)]) (by simp;omega) (by omega) (by
   intro j hj;rcases List.mem_append.1 hj with hj|hj
   ·exact nj j hj
   ·rw[List.mem_singleton]at hj;subst hj;omega) Y s0 _ Q tX.np
  refine wS ih [1000000,1000001,1000002,56] rfl ⟨_,_,rfl,(by
    show some (Obj.box (Cells.vv [V.sl 56 1 0 ((((aA p).drop 0).take p.length).length+1)]))=some (Obj.box (Cells.vv [V.sl 56 1 0 (p ++ [(i:Int)]).length]));simp[aA]),_,_,rfl,rfl,_,_,rfl,rfl,_,_,rfl,(by
    show some (Obj.arr 1 (aC.dd ((((aA p).drop 0).take p.length) ++ [[i64 (i:Int)]])))=some (Obj.arr 1 (aC.dd (aA (p ++ [(i:Int)]))));simp[aA,List.take_of_length_le]),rfl⟩ rfl rfl ?_
  rintro v h1 s' ⟨q,rfl,BI⟩;rw[pc]at BI;rcases BI with⟨rfl,rfl,vq⟩|⟨rfl,hq⟩
  ·refine⟨rfl,?_⟩
   conv=>whnf
   refine bg (p.length:Int) (by simp) (wrap_i64 (by omega)) ?_;conv=>whnf
   refine aR (by simp;omega) ?_;conv=>whnf
   refine bg (((i+1:Nat):Int)) (by(try dsimp only);omega) (wrap_i64 (by(try dsimp only);omega)) ?_;conv=>whnf
   have JT:c.aL.length-(i+1)=m:=by omega
   refine⟨(i+1,s'),by simp only;omega,⟨by simp only;omega,by simp only;rw[JT];exact vq⟩,(Wk.move 103840 900000 rfl rfl).trans ((Wk.shrink 900000 p.length rfl).trans ?_)⟩;have Tb:(aA (p ++ [(i:Int)])).take p.length=aA p:=by simp[aA,List.take_left']
   refine Wk.sub ⟨rfl,rfl,rfl,rfl,rfl,rfl,rfl,trivial⟩ ⟨?_,rfl,?_,?_,trivial⟩
   ·rfl
   ·exact dE rfl ⟨⟨rfl,⟨rfl,rfl⟩,rfl,rfl,⟨rfl,rfl⟩,⟨rfl,rfl⟩,trivial⟩,trivial⟩
   ·show some (Obj.arr 1 (aC.dd ((aA (p ++ [(i:Int)])).take p.length)))=_
    rw[Tb]
  ·refine⟨rfl,?_⟩
   conv=>whnf
   refine bD [103840] [.d (.bool false)] (yr c set t 2000000 q.length q) rfl ⟨dE rfl ⟨⟨rfl,rfl,rfl,rfl⟩,trivial⟩,rfl,dE rfl ⟨⟨rfl,⟨rfl,rfl⟩,rfl,rfl,⟨rfl,rfl⟩,⟨rfl,rfl⟩,trivial⟩,trivial⟩,rfl,trivial⟩ rfl ?_;exact⟨q,rfl,.inr ⟨rfl,hq⟩⟩
 ·have h1:¬ i<c.aL.length:=by have:=of_decide_eq_false h1;simp at this;omega
  rw[show c.aL.length-i=0 by omega]at tX;conv=>whnf
  refine bD [900000] [.d (.bool true)] (yr c set t 2000000 p.length p) rfl ⟨dE rfl ⟨⟨rfl,rfl,rfl,rfl⟩,trivial⟩,rfl,dE rfl ⟨⟨rfl,⟨rfl,rfl⟩,rfl,rfl,⟨rfl,rfl⟩,⟨rfl,rfl⟩,trivial⟩,trivial⟩,rfl,trivial⟩ rfl ?_;exact⟨p,rfl,.inl ⟨rfl,rfl,tX⟩⟩
theorem KP{c:ao}(hR:WR c){set:Int}{t:ag}{s:Slot}(hs:c.aS[t.slot.toNat]?=some s)(ht:0<=t.slot)(sW:DM t)(wc:1<=s.aL/\s.aL<=2)(left:Nat):Bk c set t s left:=by
 induction left with
 | zero=>exact Aj hR hs ht sW wc
 | succ n ih=>exact Ai hR hs ht wc ih
theorem Bd(c:ao)(set:Int)(t:ag):cy Try.prog 68 [bh c set,t.d] (.clo 93 [.ref [bh c set],.ref t.cells]):=by
 refine bx Try.func68 rfl (ft:=Oj) 2 fun {σ} Y st=>?_;conv=>whnf
 exact ba 1 rfl ⟨⟨rfl,rfl⟩,rfl⟩
theorem kh(c:ao)(hR:WR c)(set:Int)(t:ag)(sW:DM t)(su:t.slot<c.aS.length):Yields Try.prog 93 [.ref [bh c set],.ref t.cells] ((bQ c set t).map rT):=by
 intro γ Y g0 Q tX;obtain⟨s,hs⟩:∃ s,c.aS[t.slot.toNat]?=some s:=⟨c.aS[t.slot.toNat]'(by have:=sW.slot;omega),by simp⟩;have ht:=sW.slot.1;have wc:=(hR.slot s (List.mem_of_getElem? hs)).1;have Ta:bf c t=s:=by simp[bf,hs]
 refine ic mixed aI Try.func93 rfl (ft:=KO) (args:=[.yld,.d (.ref [bh c set]),.d (.ref t.cells)]) (show zK KO Try.f93 3=true from by decide +kernel) ?_;replace tX:=tX.np;generalize Y.np=Y at tX ⊢;conv=>whnf
 have Pp:iterate Y ((dh c set t s s.aL.toNat [] 0).map rT ++ []) g0 Q:=by
  rw[List.append_nil];unfold bQ at tX;rw[Ta]at tX;exact tX
 refine wS (KP hR hs ht sW wc s.aL.toNat 0 [] (by simp) (by omega) (by intro m hm;cases hm) Y g0 [] Q Pp.np) [4,3,5,6] rfl ⟨_,_,rfl,rfl,_,_,rfl,rfl,_,_,rfl,rfl,_,_,rfl,rfl,rfl⟩ rfl rfl ?_;rintro v h1 s' ⟨q,rfl,BI⟩;rcases BI with⟨rfl,_,hi⟩|⟨rfl,hq⟩
 ·refine⟨rfl,?_⟩
  conv=>whnf
  exact ba 0 rfl ⟨rfl,hi⟩
 ·refine⟨rfl,?_⟩
  conv=>whnf
  exact ba 0 rfl ⟨rfl,hq⟩
theorem jT(x:List Int×ag):J3 (rT x).1 (rT x).2=true:=by
 have h:rF (.arr 1 (.dd (aA x.1)))=true:=by
  simp only[rF,aC.aU];rw[cI];exact vf _
 show(se (bc 1000000 64) [1000000]&&se (bc 1000000 64) [1000000]&&(iv [.sl 1000000 1 0 x.1.length,.d x.2.d]&&(rF (.arr 1 (.dd (aA x.1)))&&true)))=true;rw[h];rfl
theorem u7(l:List Int)(hl:l.length<=1000):zH Try.prog 69 [.sl 1000000 1 0 l.length] [(1000000,.arr 1 (.dd (aA l)))] fun v h'=>v = .sl 2000000 1 0 l.length/\h' = [(1000000,.arr 1 (.dd (aA l))),(2000000,.arr 1 (.dd (aA l)))]:=by
 intro σ Y s;refine ic mixed aI Try.func69 rfl (ft:=KI) (args:=[.sl 1000000 1 0 l.length]) (show zK KI Try.f69 1=true from by decide +kernel) ?_;conv=>whnf
 refine aR (by simp;rfl) ?_;conv=>whnf
 refine aR (decide_eq_true (by dsimp only;omega)) ?_;conv=>whnf
 refine ar (by simp[aC.len,aA]) ?_;conv=>whnf
 refine aR ?_ ?_
 ·simp only[List.length_replicate,Bool.and_eq_true]
  refine⟨by rw[Nat.ble_eq];omega,?_⟩;clear hl
  induction l with
  | nil=>rfl
  | cons x r ih=>exact ih
 conv=>whnf
 have hn:((l.length:Int)).toNat=l.length:=by omega
 have vn:(aA l).length=l.length:=by simp[aA]
 have e1:(List.take 0 (List.replicate (↑l.length:Int).toNat [D.int IntKind.i64 0])++List.take (min (aA l).length (↑l.length:Int).toNat) (aA l)++List.drop (0+min (aA l).length (↑l.length:Int).toNat) (List.replicate (↑l.length:Int).toNat [D.int IntKind.i64 0]))=aA l:=by
  rw[hn,vn];simp[List.take_of_length_le,vn]
 rw[e1,hn];refine bD [6] [.sl 2000000 1 0 l.length] [(1000000,.arr 1 (.dd (aA l))),(2000000,.arr 1 (.dd (aA l)))] rfl ⟨rfl,rfl,trivial⟩ rfl ?_;exact⟨⟨rfl,rfl⟩,rfl⟩
def uS(l:List (List Int)):D:=match l with
 | []=>.nils
 | x::r=>aJ (x::r)
theorem Ca{c:ao}(hR:WR c){set:Int}:∀ {rota:List (List Int)} {t:ag} {i:Int} {k:Int},3<=k->(0<=t.slot/\t.slot<c.aS.length)->TB t k->(0<=(bP c set t rota i).2.slot/\(bP c set t rota i).2.slot<c.aS.length)/\TB (bP c set t rota i).2 (k+rota.length)
 | [],t,i,k,_,hs,hb=>⟨hs,by simpa[bP]using hb⟩
 | r::rest,t,i,k,hk,hs,hb=>by
  rw[bP];split
  ·have:=Ca hR (set:=set) (rota:=rest) (t:=aZ c t r) (i:=i+1) (k:=k+1) (by omega) (mW hR hs.1) (vL hR hk hb)
   rw[show k+((r::rest).length:Int)=k+1+rest.length by simp;omega];exact this
  ·refine⟨hs,?_⟩
   constructor<;>have:=hb.m0<;>have:=hb.m1<;>have:=hb.m2<;>have:=hb.m3<;>have:=hb.m4<;>simp only[List.length_cons]<;>omega
theorem TB.tok{c:ao}(hR:WR c){t:ag}{k:Int}(hk:k<=1000)(hs:0<=t.slot/\t.slot<c.aS.length)(h:TB t k):DM t:=by
 have:=hR.aS;constructor<;>have:=h.m0<;>have:=h.m1<;>have:=h.m2<;>have:=h.m3<;>have:=h.m4<;>omega
theorem tN{c:ao}{rota:List (List Int)}(h0:df c rota=0):WR c/\rota.length<=40/\DM (na c rota)/\(na c rota).slot<c.aS.length:=by
 have hE:b0 c rota=0:=by
  unfold df at h0;split at h0
  ·assumption
  ·exact h0
 obtain⟨hR,hl,gS⟩:=eZ hE;have hz:=TG.zero hR;obtain⟨h1,h2⟩:=Ca hR (set:=aB c) (rota:=rota) (t:=.zero) (i:=0) (k:=100) (by omega) hz.slot hz.bd;exact⟨hR,hl,TB.tok hR (by omega) h1 h2,h1.2⟩
theorem rN{c:ao}{set:Int}{t:ag}{s:Slot}:∀ {left:Nat} {p:List Int} {start:Nat} {x:List Int×ag},x∈dh c set t s left p start->x.1.length=p.length+left
 | 0,p,start,x,h=>by
  rw[dh]at h;split at h
  ·rw[List.mem_singleton]at h;subst h;rfl
  ·cases h
 | left+1,p,start,x,h=>by
  rw[dh,List.mem_flatMap]at h;obtain⟨i,_,h⟩:=h;have:=rN h;simp at this;omega
theorem jK{c:ao}(hR:WR c){set:Int}{t:ag}{x:List Int×ag}(h:x∈bQ c set t):x.1.length<=2:=by
 have h1:=rN h;have h2:(bf c t).aL.toNat<=2:=by
  unfold bf
  cases hs:c.aS[t.slot.toNat]? with
  | none=>simp
  | some s=>
   have:=(hR.slot s (List.mem_of_getElem? hs)).1;simp;omega
 simp at h1;omega
theorem m8{α β:Type}{f:α->List β}{k:Nat}:∀ {l:List α},(∀ x∈l,(f x).length<=k)->(l.flatMap f).length<=l.length*k
 | [],_=>by simp
 | x::r,h=>by
  have h1:=h x (by simp);have h2:=m8 (f:=f) (k:=k) (l:=r) fun y hy=>h y (by simp[hy]);rw[List.flatMap_cons,List.length_append,List.length_cons,Nat.add_mul];omega
theorem qb{c:ao}(hR:WR c){set:Int}{t:ag}{s:Slot}:∀ {left:Nat} {p:List Int} {start:Nat},(dh c set t s left p start).length<=5^left
 | 0,p,start=>by
  rw[dh];split<;>simp
 | left+1,p,start=>by
  rw[dh];refine Nat.le_trans (m8 (k:=5^left) fun i _=>qb hR) ?_;rw[List.length_range',Nat.pow_succ,Nat.mul_comm];exact Nat.mul_le_mul_left _ (by have:=hR.aL;omega)
theorem nb{c:ao}(hR:WR c){set:Int}{t:ag}:(bQ c set t).length<=25:=by
 have h2:(bf c t).aL.toNat<=2:=by
  unfold bf
  cases hs:c.aS[t.slot.toNat]? with
  | none=>simp
  | some s=>
   have:=(hR.slot s (List.mem_of_getElem? hs)).1;simp;omega
 refine Nat.le_trans (qb hR) ?_;exact Nat.le_trans (Nat.pow_le_pow_right (by omega) h2) (by decide)
def Cl(c:ao)(rota:List (List Int)):List (List Int):=(bQ c (aB c) (na c rota)).map (·.1)
theorem MF(c:ao)(rota:List (List Int)):cy Try.prog 22 [c.d,aJ rota] (.tup [if df c rota=0 then uS (Cl c rota) else .nils,i64 (df c rota)]):=by
 refine bx Try.func22 rfl (ft:=(NQ.more 6 [101664])) 2 fun {σ} Y st=>?_;conv=>whnf
 refine aH (JA c rota) rfl rfl ?_;conv=>whnf
 by_cases h0:df c rota=0
 ·obtain⟨hR,hl,sW,su⟩:=tN h0
  rw[h0];simp only[if_true];conv=>whnf
  refine aH (Bd c (aB c) (na c rota)) rfl rfl ?_;conv=>whnf
  refine fp aI (by exact au mixed aI (by decide +kernel)) (by exact au mixed aI (by decide +kernel)) rfl 1500000 1600000 [2,4,7] (by exact kh c hR (aB c) (na c rota) sW su)
   (fun(x:List (List Int))=>match x with
    | []=>([(1500000,.box (.dd c.cells)),(1500001,.box (.dd [.nils])),(1500002,.box (.dd (na c rota).cells))],st)
    | g::r=>([(1500000,.box (.dd c.cells)),(1500001,.box (.vv [.sl 28 1 0 (g::r).length])),(1500002,.box (.dd (na c rota).cells)),(28,.arr 1 (.dd ((g::r).map fun r=>[aj r])))],st))
   (fun rest x=>Cl c rota=x++rest.map (fun(p:List Int×ag)=>p.1) /\ ∀ p∈rest,p.1.length<=2) [] rfl rfl rfl ⟨rfl,fun p hp=>jK hR hp⟩ ?_ ?_
  ·rintro ⟨g,u⟩ rest acc ⟨he,BD⟩ Q vj -
   have tW:g.length<=1000:=by have:=BD (g,u) (by simp);simp only at this;omega
   refine⟨⟨rfl,jT _⟩,?_⟩
   cases acc with
   | nil=>
    conv=>whnf
    refine bY (u7 g tW) [1600000] rfl ⟨_,_,rfl,rfl,rfl⟩ rfl ?_;conv=>whnf
    refine ar rfl ?_;conv=>whnf
    refine⟨[g],(Wk.l7 1 [101664] 28 (vs:=[[.sl 101664 1 0 g.length]]) (ds:=[[aj g]]) rfl (gv (aV (bI rfl (by simp[aA])) rfl))).trans aw,rfl,vj _ ⟨by simpa using he,fun p hp=>BD p (by simp[hp])⟩⟩
   | cons a r=>
    conv=>whnf
    refine bY (u7 g tW) [1600000] rfl ⟨_,_,rfl,rfl,rfl⟩ rfl ?_;conv=>whnf
    refine ar rfl ?_;conv=>whnf
    refine ar (by simp[aC.len]) ?_;conv=>whnf
    have sj:(a::r).length<=25:=by
     have h1:(Cl c rota).length<=25:=by unfold Cl;rw[List.length_map];exact nb hR
     rw[he]at h1;simp at h1 ⊢;omega
    have dB:(true && !dJ 28 ((aO ((a::r).map fun r=>[aj r]) ++ [[V.sl 101664 1 0 g.length]]).flatten))=true:=by
     rw[iS];rfl
    refine aR dB ?_;conv=>whnf
    refine aR (decide_eq_true (by
     show(((a::r).map fun r=>[aj r]).length+1)*24<=140737488355328;rw[List.length_map];omega)) ?_
    conv=>whnf
    refine lj [101664,28] (by
     show bm ((aO ((a::r).map fun r=>[aj r]) ++ [[V.sl 101664 1 0 g.length]]).flatten)++([28] ++ [])=_;rw[iD];rfl) ?_
    conv=>whnf
    refine⟨a::r ++ [g],(Wk.l7 1 [101664] 28 (sz:=1) (vs:=aO ((a::r).map fun r=>[aj r]) ++ [[.sl 101664 1 0 g.length]]) (ds:=((a::r).map fun r=>[aj r]) ++ [[aj g]]) ?_ (gu (gv (aV (bI rfl (by simp[aA])) rfl)) _)).trans ?_,rfl,vj _ ⟨by simpa using he,fun p hp=>BD p (by simp[hp])⟩⟩
    ·rfl
    ·refine Wk.sub trivial ⟨rfl,?_,rfl,?_,rfl,trivial⟩
     ·show some (Obj.box (Cells.vv [V.sl 28 1 0 (((a::r).map fun r=>[aj r]).length+1)]))=some (Obj.box (Cells.vv [V.sl 28 1 0 (a::(r ++ [g])).length]))
      simp
     ·show some (Obj.arr 1 (aC.dd (((a::r).map fun r=>[aj r]) ++ [[aj g]])))=some (Obj.arr 1 (aC.dd ((a::(r ++ [g])).map fun r=>[aj r])))
      simp
  ·rintro acc ⟨he,_⟩
   have he:Cl c rota=acc:=by simpa using he
   rw[he]
   cases acc with
   | nil=>
    conv=>whnf
    refine ba 0 rfl ⟨⟨?_,rfl⟩,rfl⟩;simp[j6,uS]
   | cons a r=>
    conv=>whnf
    refine ba 1 (ds:=[aJ (a::r),i64 0]) ?_ ⟨⟨?_,rfl⟩,rfl⟩
    ·exact aV (bI (es:=(a::r).map fun r=>[aj r]) rfl (by simp)) rfl
    ·simp[j6,uS]
 ·rw[if_neg h0,if_neg h0]
  conv=>whnf
  refine ak (fun _=>?_) (fun h1=>absurd h1 (by simp[h0]));conv=>whnf
  rw[if_neg h0];exact ax
abbrev Kn:=List (ag×Int)
def kT(kn:Kn):List (D×D):=kn.map fun p=>(p.1.d,i64 p.2)
def cm:Kn->ag->Option Int
 | [],_=>none
 | (u,x)::r,t=>if t=u then some x else cm r t
def cR:Kn->ag->Int->Kn
 | [],t,v=>[(t,v)]
 | (u,x)::r,t,v=>if t=u then (t,v)::r else (u,x)::cR r t v
theorem my(t u:ag):gE t.d u.d=some (decide (t=u)):=by
 have h:cd t.cells u.cells=some (decide (t.slot=u.slot)&&(decide (t.m0=u.m0)&&(decide (t.m1=u.m1)&&(decide (t.m2=u.m2)&&(decide (t.m3=u.m3)&&(decide (t.m4=u.m4)&&true)))))):=rfl;show cd t.cells u.cells=_;rw[h]
 congr 1
 cases t;cases u
 simp[Bool.and_assoc]
theorem cZ{kn:Kn}{t:ag}(h:cm kn t=none):∀ n,findD t.d (kT kn) n=some none:=by
 induction kn with
 | nil=>intro n;rfl
 | cons p r ih=>
  obtain⟨u,x⟩:=p;intro n;rw[cm]at h;split at h
  ·cases h
  ·rename_i hu
   show(match gE t.d u.d with
    | some true=>some (some (n,i64 x))
    | some false=>findD t.d (kT r) (n+1)
    | none=>none)=_
   rw[my,decide_eq_false hu];exact ih h (n+1)
theorem dw{kn:Kn}{t:ag}{v:Int}(h:cm kn t=some v):∀ n,∃ i,findD t.d (kT kn) n=some (some (n+i,i64 v)) /\ ∀ y,(kT kn).set i (t.d,i64 y)=kT (cR kn t y):=by
 induction kn with
 | nil=>cases h
 | cons p r ih=>
  obtain⟨u,x⟩:=p;intro n;rw[cm]at h;split at h
  ·rename_i hu
   cases h;refine⟨0,?_,fun y=>?_⟩
   ·show(match gE t.d u.d with
     | some true=>some (some (n,i64 v))
     | some false=>findD t.d (kT r) (n+1)
     | none=>none)=_
    rw[my,decide_eq_true hu];rfl
   ·rw[cR,if_pos hu];rfl
  ·rename_i hu
   obtain⟨i,h1,h2⟩:=ih h (n+1);refine⟨i+1,?_,fun y=>?_⟩
   ·show(match gE t.d u.d with
     | some true=>some (some (n,i64 x))
     | some false=>findD t.d (kT r) (n+1)
     | none=>none)=_
    rw[my,decide_eq_false hu];show findD t.d (kT r) (n+1)=_;rw[h1,show n+1+i=n+(i+1) by omega]
   ·rw[cR,if_neg hu]
    show(u.d,i64 x)::(kT r).set i (t.d,i64 y)=(u.d,i64 x)::kT (cR r t y);rw[h2 y]
theorem fF{kn:Kn}{t:ag}(h:cm kn t=none)(y:Int):kT kn ++ [(t.d,i64 y)]=kT (cR kn t y):=by
 induction kn with
 | nil=>rfl
 | cons p r ih=>
  obtain⟨u,x⟩:=p;rw[cm]at h;split at h
  ·cases h
  ·rename_i hu
   rw[cR,if_neg hu];show(u.d,i64 x)::(kT r ++ [(t.d,i64 y)])=_;rw[ih h];rfl
theorem bJ(kn:Kn)(t u:ag)(y:Int):cm (cR kn t y) u=if u=t then some y else cm kn u:=by
 induction kn with
 | nil=>rfl
 | cons p r ih=>
  obtain⟨w,x⟩:=p;rw[cR];split
  ·rename_i h
   subst h;simp only[cm];split<;>rfl
  ·rename_i h
   simp only[cm];split
   ·rename_i h2
    subst h2;rw[if_neg (fun e=>h e.symm)]
   ·exact ih
def er(kn:Kn)(t:ag):Bool:=!(cm kn t ==some 1||cm kn t ==some 2||cm kn t ==some 3)
def jt(f:Kn->ag->Bool×Kn):Kn->List ag->Bool×Kn
 | kn,[]=>(false,kn)
 | kn,u::r=>if (f kn u).1 then (true,(f kn u).2) else jt f (f kn u).2 r
def eo(c:ao)(set:Int):Nat->Kn->ag->Bool×Kn
 | 0,kn,t=>(cm kn t ==some 2||cm kn t ==some 1,kn)
 | n+1,kn,t=>
  if cm kn t=some 2\/cm kn t=some 1 then (true,kn)
  else if cm kn t=some 3 then (false,kn)
  else
   let r:=jt (eo c set n) (cR kn t 1) ((bQ c set t).map (·.2))
   (r.1,cR r.2 t (if r.1 then 2 else 3))
structure fJ(c:ao)(t:ag):Prop where
 slot:0<=t.slot/\t.slot<c.aS.length
 m:∀ j,j<5 -> -2<=t.get j/\t.get j<=3
def Dw:List Int:=[-2,-1,0,1,2,3]
def univ(c:ao):List ag:=(List.range c.aS.length).flatMap fun s=>Dw.flatMap fun a=>Dw.flatMap fun b=>Dw.flatMap fun d=>Dw.flatMap fun e=>Dw.map fun f=>⟨(s:Nat),a,b,d,e,f⟩
theorem nu{x:Int}(h : -2<=x/\x<=3):x∈Dw:=by
 have:x = -2\/x = -1\/x=0\/x=1\/x=2\/x=3:=by omega
 rcases this with rfl|rfl|rfl|rfl|rfl|rfl<;>decide
theorem fJ.mem{c:ao}{t:ag}(h:fJ c t):t∈univ c:=by
 obtain⟨hs,hm⟩:=h;simp only[univ,List.mem_flatMap,List.mem_map,List.mem_range];refine⟨t.slot.toNat,by omega,t.m0,nu (hm 0 (by decide)),t.m1,nu (hm 1 (by decide)),t.m2,nu (hm 2 (by decide)),t.m3,nu (hm 3 (by decide)),t.m4,nu (hm 4 (by decide)),?_⟩;have:((t.slot.toNat:Nat):Int)=t.slot:=by omega
 rw[this]
theorem eG{α β:Type}{f:α->List β}{k:Nat}:∀ {l:List α},(∀ x,(f x).length=k)->(l.flatMap f).length=l.length*k
 | [],_=>by simp
 | x::r,h=>by
  rw[List.flatMap_cons,List.length_append,h x,eG (l:=r) h,List.length_cons,Nat.add_mul];omega
theorem FD(c:ao):(univ c).length=c.aS.length*7776:=by
 unfold univ;rw[eG (k:=7776),List.length_range];intro s;rw[eG (k:=1296)];· rfl
 intro a;rw[eG (k:=216)];· rfl
 intro b;rw[eG (k:=36)];· rfl
 intro d;rw[eG (k:=6)];· rfl
 intro e;rfl
def sg(c:ao)(kn:Kn):Nat:=((univ c).filter (er kn)).length
theorem filter_le{α:Type}{p q:α->Bool}(h:∀ x,q x=true->p x=true):∀ (l:List α),(l.filter q).length<=(l.filter p).length
 | []=>Nat.le_refl _
 | x::r=>by
  have:=filter_le h r;rw[List.filter_cons,List.filter_cons];by_cases hq:q x=true
  ·rw[if_pos hq,if_pos (h x hq)];simp;omega
  ·rw[if_neg hq]
   split
   ·simp;omega
   ·exact this
theorem filter_lt{α:Type}{p q:α->Bool}(h:∀ x,q x=true->p x=true):∀ {l:List α} {y:α},y∈l->p y=true->q y=false->(l.filter q).length<(l.filter p).length
 | [],y,hy,_,_=>by cases hy
 | x::r,y,hy,hp,hq=>by
  rw[List.filter_cons,List.filter_cons];rcases List.mem_cons.1 hy with rfl|hy
  ·rw[if_pos hp,if_neg (by rw[hq];simp)]
   have:=filter_le h r;simp;omega
  ·have:=filter_lt h hy hp hq
   by_cases BJ:q x=true
   ·rw[if_pos BJ,if_pos (h x BJ)];simp;omega
   ·rw[if_neg BJ]
    split
    ·simp;omega
    ·exact this
def tc(a b:Kn):Prop:=∀ t,er b t=true->er a t=true
theorem tc.Gh{c:ao}{a b:Kn}(h:tc a b):sg c b<=sg c a:=filter_le h _
theorem tc.put(kn:Kn)(t:ag){y:Int}(hy:y=1\/y=2\/y=3):tc kn (cR kn t y):=by
 intro u hu;unfold er at hu ⊢;rw[bJ]at hu;split at hu
 ·rcases hy with rfl|rfl|rfl<;>simp at hu
 ·exact hu
theorem sH{c:ao}{kn:Kn}{t:ag}(ht:fJ c t)(hf:er kn t=true):sg c (cR kn t 1)<sg c kn:=by
 refine filter_lt (tc.put kn t (.inl rfl)) ht.mem hf ?_;unfold er;rw[bJ,if_pos rfl];rfl
theorem B5{f:Kn->ag->Bool×Kn}(hf:∀ kn t,tc kn (f kn t).2):∀ (l:List ag) (kn:Kn),tc kn (jt f kn l).2
 | [],kn=>fun _ h=>h
 | u::r,kn=>by
  rw[jt];split
  ·exact hf kn u
  ·exact fun t h=>hf kn u t (B5 hf r _ t h)
theorem sN{c:ao}{set:Int}:∀ (n:Nat) (kn:Kn) (t:ag),tc kn (eo c set n kn t).2
 | 0,kn,t=>fun _ h=>h
 | n+1,kn,t=>by
  rw[eo];split
  ·exact fun _ h=>h
  split
  ·exact fun _ h=>h
  intro u hu;refine tc.put kn t (y:=1) (.inl rfl) u (B5 (sN n) _ _ u (tc.put _ t ?_ u hu));split
  ·exact .inr (.inl rfl)
  ·exact .inr (.inr rfl)
theorem vd{c:ao}{set:Int}{t:ag}{s:Slot}{p:List Int}(h:(kV c set t s p).1=0):(p.length:Int)=s.aL/\(∃ m∈p,(ec c m).kind≥s.least)/\(∀ m∈p,eJ set m=true/\t.slot∉(ec c m).no)/\(∀ m∈p,t.get m.toNat<c.run)/\(∀ m∈p,0<=t.get m.toNat):=by
 unfold kV at h;split at h
 ·simp at h
 rename_i h1;split at h
 ·simp at h
 rename_i h2;split at h
 ·simp at h
 rename_i h3;split at h
 ·simp at h
 rename_i h4;split at h
 ·simp at h
 rename_i h5;refine⟨by simpa using h1,?_,?_,?_,?_⟩
 ·simpa using h2
 ·intro m hm
  have:=List.find?_eq_none.1 h3 m hm;simpa using this
 ·intro m hm
  have:=List.find?_eq_none.1 h4 m hm;simpa using this
 ·intro m hm
  have:=List.find?_eq_none.1 h5 m hm;simpa using this
theorem lU{c:ao}(hR:WR c){t:ag}{group:List Int}{j:Nat}(hj:j<5):(aZ c t group).get j=if j<c.aL.length then bn c.rest (decide ((j:Int)∈group)) (t.get j) else t.get j:=by
 have hm:=hR.aL;unfold aZ;rw[mC (by omega) hj];have h2:(ag.mk ((t.slot+1).tmod c.aS.length) t.m0 t.m1 t.m2 t.m3 t.m4).get j=t.get j:=by
  have h2:j=0\/j=1\/j=2\/j=3\/j=4:=by omega
  rcases h2 with rfl|rfl|rfl|rfl|rfl<;>rfl
 show(if j<c.aL.length then bn c.rest (decide ((j:Int)∈group)) ((ag.mk ((t.slot+1).tmod c.aS.length) t.m0 t.m1 t.m2 t.m3 t.m4).get j) else (ag.mk ((t.slot+1).tmod c.aS.length) t.m0 t.m1 t.m2 t.m3 t.m4).get j)=_;rw[h2]
theorem lT{c:ao}(hR:WR c){set:Int}{t:ag}{s:Slot}{p:List Int}(ht:fJ c t)(h:(kV c set t s p).1=0):fJ c (aZ c t p):=by
 have hr:=hR.run;have S8:=hR.rest;obtain⟨_,_,_,h4,h5⟩:=vd h;refine⟨mW hR ht.slot.1,fun j hj=>?_⟩;have:=ht.m j hj;rw[lU hR hj];split
 ·unfold bn
  split
  ·rename_i iY
   have iY:(j:Int)∈p:=of_decide_eq_true iY;have h6:=h4 _ iY;have h7:=h5 _ iY;simp only[Int.toNat_natCast]at h6 h7;omega
  ·split
   ·omega
   ·split<;>omega
 ·exact this
theorem ig{c:ao}{set:Int}{t:ag}{s:Slot}:∀ {left:Nat} {p:List Int} {start:Nat} {x:List Int×ag},x∈dh c set t s left p start->(kV c set t s x.1).1=0/\x.2=aZ c t x.1
 | 0,p,start,x,h=>by
  rw[dh]at h;split at h
  ·rename_i h0
   rw[List.mem_singleton]at h;subst h;exact⟨h0,rfl⟩
  ·cases h
 | left+1,p,start,x,h=>by
  rw[dh,List.mem_flatMap]at h;obtain⟨i,_,h⟩:=h;exact ig h
theorem eR{c:ao}(hR:WR c){set:Int}{t:ag}(ht:fJ c t){x:List Int×ag}(h:x∈bQ c set t):fJ c x.2:=by
 obtain⟨h1,h2⟩:=ig h;rw[h2];exact lT hR ht h1
theorem fJ.zero{c:ao}(hR:WR c):fJ c ag.zero:=by
 have:=hR.aS;refine⟨by simp[ag.zero];omega,fun j hj=>?_⟩;have h2:j=0\/j=1\/j=2\/j=3\/j=4:=by omega
 rcases h2 with rfl|rfl|rfl|rfl|rfl<;>simp[ag.zero,ag.get]
theorem fJ.tok{c:ao}(hR:WR c){t:ag}(h:fJ c t):DM t/\t.slot<c.aS.length:=by
 have:=hR.aS;have h0:=h.m 0 (by decide);have h1:=h.m 1 (by decide);have h2:=h.m 2 (by decide);have h3:=h.m 3 (by decide);have h4:=h.m 4 (by decide);have hs:=h.slot;simp only[ag.get]at h0 h1 h2 h3 h4;exact⟨⟨by omega,by omega,by omega,by omega,by omega,by omega⟩,hs.2⟩
def km(c:ao)(set:Int)(k f:Kn):av:=[(1000000,.box (.vv [.d (bh c set),.mp 1000001,.mp 1000002])),(1000001,.map (kT k)),(1000002,.map (kT f))]
def DI(c:ao)(set:Int)(n:Nat):Prop:=
 ∀ (kn fa:Kn) (t:ag),fJ c t->sg c kn<=n->zH Try.prog 73 [.ptr 1000000 0,.d t.d] (km c set kn fa) fun v h'=>v = .d (.bool (eo c set n kn t).1)/\h'=km c set (eo c set n kn t).2 fa
theorem sM{c:ao}{set:Int}{kn:Kn}{t:ag}(h:cm kn t=some 2\/cm kn t=some 1):∀ n,eo c set n kn t=(true,kn)
 | 0=>by rw[eo];rcases h with h|h<;>simp[h]
 | n+1=>by rw[eo,if_pos h]
theorem D6{c:ao}{set:Int}{kn:Kn}{t:ag}(h:cm kn t=some 3):∀ n,eo c set n kn t=(false,kn)
 | 0=>by rw[eo];simp[h]
 | n+1=>by rw[eo,if_neg (by simp[h]),if_pos h]
theorem yj{c:ao}{set:Int}{kn:Kn}{t:ag}(h:er kn t=true)(n:Nat):eo c set (n+1) kn t=((jt (eo c set n) (cR kn t 1) ((bQ c set t).map (·.2))).1,cR (jt (eo c set n) (cR kn t 1) ((bQ c set t).map (·.2))).2 t (if (jt (eo c set n) (cR kn t 1) ((bQ c set t).map (·.2))).1 then 2 else 3)):=by
 rw[eo,if_neg,if_neg]
 ·intro h2;rw[er,h2]at h;simp at h
 ·intro h2;rcases h2 with h2|h2<;>rw[er,h2]at h<;>simp at h
theorem Br{c:ao}(hR:WR c){set:Int}{n:Nat}(ih:∀ m,n=m+1->DI c set m):DI c set n:=by
 intro kn fa t ht hc σ Y s;refine ic mixed aI Try.func73 rfl (ft:=KL) (args:=[.ptr 1000000 0,.d t.d]) (show zK KL Try.f73 2=true from by decide +kernel) ?_;conv=>whnf
 by_cases hf:er kn t=true
 ·obtain⟨m,rfl⟩:∃ m,n=m+1:=⟨n-1,by have:=sH ht hf;omega⟩
  rw[yj hf];have ih:=ih m rfl;have sR:sg c (cR kn t 1)<=m:=by have:=sH ht hf;omega
  have I4:∀ v,cm kn t=some v->v≠2/\v≠1/\v≠3:=by
   intro v hv;refine⟨?_,?_,?_⟩<;>rintro rfl<;>rw[er,hv]at hf<;>simp at hf
  cases hk:cm kn t with
  | none=>
   refine⟨none,cZ hk 0,?_⟩;conv=>whnf
   refine⟨none,cZ hk 0,?_⟩;conv=>whnf
   refine aE (ds:=[bh c set,t.d]) (Bd c set t) rfl rfl ?_;conv=>whnf
   refine gK.wk (st':=⟨[(2,.ptr 2 0),(3,.ptr 3 0),(4,.ptr 4 0),(28,.d (.clo 93 [.ref [bh c set],.ref t.cells]))],[(1000000,.box (.vv [.d (bh c set),.mp 1000001,.mp 1000002])),(1000001,.map (kT (cR kn t 1))),(1000002,.map (kT fa)),(2,.box (.vv [.ptr 1000000 0])),(3,.box (.dd t.cells)),(4,.box (.dd [.bool false]))],s⟩) (Wk.sub ⟨rfl,rfl,rfl,rfl,trivial⟩ ⟨rfl,(by rw[<- fF hk];rfl),rfl,rfl,rfl,rfl,trivial⟩) ?_;obtain⟨sW,su⟩:=ht.tok hR;refine fp aI (by exact au mixed aI (by decide +kernel)) (by exact au mixed aI (by decide +kernel)) rfl 1500000 1600000 [2,3,4] (by exact kh c hR set t sW su)
    (fun(x:Kn)=>([(1000000,.box (.vv [.d (bh c set),.mp 1000001,.mp 1000002])),(1000001,.map (kT x)),(1000002,.map (kT fa)),(1500000,.box (.vv [.ptr 1000000 0])),(1500001,.box (.dd t.cells)),(1500002,.box (.dd [.bool false]))],s))
    (fun(rest:List (List Int×ag)) x=>jt (eo c set m) (cR kn t 1) ((bQ c set t).map (·.2))=jt (eo c set m) x (rest.map (·.2))/\sg c x<=m /\ ∀ p∈rest,fJ c p.2) (cR kn t 1) rfl rfl rfl ⟨rfl,sR,fun p hp=>eR hR ht hp⟩ ?_ ?_
   ·rintro ⟨g,u⟩ rest x ⟨he,IL,iY⟩ Q vj hQ
    refine⟨⟨rfl,jT _⟩,?_⟩;have hu:fJ c u:=iY (g,u) (by simp);rw[List.map_cons,jt]at he;conv=>whnf
    refine cw (ih x fa u hu IL) [1000000,1000001,1000002] rfl ⟨_,_,rfl,rfl,_,_,rfl,rfl,_,_,rfl,rfl,rfl⟩ rfl ?_
    cases hb:(eo c set m x u).1 with
    | false=>
     rw[hb]at he;simp only[Bool.false_eq_true,if_false]at he;conv=>whnf
     exact⟨(eo c set m x u).2,aw,rfl,vj _ ⟨he,Nat.le_trans (sN m x u).Gh IL,fun p hp=>iY p (by simp[hp])⟩⟩
    | true=>
     rw[hb]at he;simp only[if_true]at he;conv=>whnf
     cases fj:cm (eo c set m x u).2 t with
     | none=>
      refine⟨none,cZ fj 0,?_⟩;conv=>whnf
      refine⟨[(1000000,.box (.vv [.d (bh c set),.mp 1000001,.mp 1000002])),(1000001,.map (kT (cR (eo c set m x u).2 t 2))),(1000002,.map (kT fa)),(1500000,.box (.vv [.ptr 1000000 0])),(1500001,.box (.dd t.cells)),(1500002,.box (.dd [.bool true]))],s,Wk.sub trivial ⟨rfl,(by rw[<- fF fj];rfl),rfl,rfl,rfl,rfl,rfl,trivial⟩,rfl,hQ _ _ _ ?_⟩;conv=>whnf
      refine bD [] [.d (.bool true)] (km c set (cR (eo c set m x u).2 t 2) fa) rfl ⟨rfl,rfl,rfl,trivial⟩ rfl ⟨⟨?_,?_⟩,rfl⟩
      ·rw[he];rfl
      ·rw[he];rfl
     | some v2=>
      obtain⟨Nt,FY,FZ⟩:=dw fj 0;refine⟨_,FY,?_⟩;conv=>whnf
      refine⟨[(1000000,.box (.vv [.d (bh c set),.mp 1000001,.mp 1000002])),(1000001,.map (kT (cR (eo c set m x u).2 t 2))),(1000002,.map (kT fa)),(1500000,.box (.vv [.ptr 1000000 0])),(1500001,.box (.dd t.cells)),(1500002,.box (.dd [.bool true]))],s,Wk.sub trivial ⟨rfl,(by rw[<- FZ,Nat.zero_add];rfl),rfl,rfl,rfl,rfl,rfl,trivial⟩,rfl,hQ _ _ _ ?_⟩;conv=>whnf
      refine bD [] [.d (.bool true)] (km c set (cR (eo c set m x u).2 t 2) fa) rfl ⟨rfl,rfl,rfl,trivial⟩ rfl ⟨⟨?_,?_⟩,rfl⟩
      ·rw[he];rfl
      ·rw[he];rfl
   ·rintro x ⟨he,IL,_⟩
    rw[List.map_nil,jt]at he;conv=>whnf
    cases fj:cm x t with
    | none=>
     refine⟨none,cZ fj 0,?_⟩;conv=>whnf
     refine bD [] [.d (.bool false)] (km c set (cR x t 3) fa) rfl ⟨rfl,(by rw[<- fF fj];rfl),rfl,trivial⟩ rfl ⟨⟨?_,?_⟩,rfl⟩
     ·rw[he];rfl
     ·rw[he];rfl
    | some v2=>
     obtain⟨Nt,FY,FZ⟩:=dw fj 0;refine⟨_,FY,?_⟩;conv=>whnf
     refine bD [] [.d (.bool false)] (km c set (cR x t 3) fa) rfl ⟨rfl,(by rw[<- FZ,Nat.zero_add];rfl),rfl,trivial⟩ rfl ⟨⟨?_,?_⟩,rfl⟩
     ·rw[he];rfl
     ·rw[he];rfl
  | some v=>
   obtain⟨ix,DE,LY⟩:=dw hk 0;obtain⟨n1,n2,n3⟩:=I4 v hk;refine⟨_,DE,?_⟩;conv=>whnf
   refine ak (fun h=>absurd h (by simpa using n1)) (fun _=>?_);conv=>whnf
   refine ak (fun h=>absurd h (by simpa using n2)) (fun _=>?_);conv=>whnf
   refine ak (fun h=>absurd h (by simpa using n3)) (fun _=>?_);conv=>whnf
   refine⟨_,DE,?_⟩;conv=>whnf
   refine aE (ds:=[bh c set,t.d]) (Bd c set t) rfl rfl ?_;conv=>whnf
   refine gK.wk (st':=⟨[(2,.ptr 2 0),(3,.ptr 3 0),(4,.ptr 4 0),(28,.d (.clo 93 [.ref [bh c set],.ref t.cells]))],[(1000000,.box (.vv [.d (bh c set),.mp 1000001,.mp 1000002])),(1000001,.map (kT (cR kn t 1))),(1000002,.map (kT fa)),(2,.box (.vv [.ptr 1000000 0])),(3,.box (.dd t.cells)),(4,.box (.dd [.bool false]))],s⟩) (Wk.sub ⟨rfl,rfl,rfl,rfl,trivial⟩ ⟨rfl,(by rw[<- LY,Nat.zero_add];rfl),rfl,rfl,rfl,rfl,trivial⟩) ?_;obtain⟨sW,su⟩:=ht.tok hR;refine fp aI (by exact au mixed aI (by decide +kernel)) (by exact au mixed aI (by decide +kernel)) rfl 1500000 1600000 [2,3,4] (by exact kh c hR set t sW su)
    (fun(x:Kn)=>([(1000000,.box (.vv [.d (bh c set),.mp 1000001,.mp 1000002])),(1000001,.map (kT x)),(1000002,.map (kT fa)),(1500000,.box (.vv [.ptr 1000000 0])),(1500001,.box (.dd t.cells)),(1500002,.box (.dd [.bool false]))],s))
    (fun(rest:List (List Int×ag)) x=>jt (eo c set m) (cR kn t 1) ((bQ c set t).map (·.2))=jt (eo c set m) x (rest.map (·.2))/\sg c x<=m /\ ∀ p∈rest,fJ c p.2) (cR kn t 1) rfl rfl rfl ⟨rfl,sR,fun p hp=>eR hR ht hp⟩ ?_ ?_
   ·rintro ⟨g,u⟩ rest x ⟨he,IL,iY⟩ Q vj hQ
    refine⟨⟨rfl,jT _⟩,?_⟩;have hu:fJ c u:=iY (g,u) (by simp);rw[List.map_cons,jt]at he;conv=>whnf
    refine cw (ih x fa u hu IL) [1000000,1000001,1000002] rfl ⟨_,_,rfl,rfl,_,_,rfl,rfl,_,_,rfl,rfl,rfl⟩ rfl ?_
    cases hb:(eo c set m x u).1 with
    | false=>
     rw[hb]at he;simp only[Bool.false_eq_true,if_false]at he;conv=>whnf
     exact⟨(eo c set m x u).2,aw,rfl,vj _ ⟨he,Nat.le_trans (sN m x u).Gh IL,fun p hp=>iY p (by simp[hp])⟩⟩
    | true=>
     rw[hb]at he;simp only[if_true]at he;conv=>whnf
     cases fj:cm (eo c set m x u).2 t with
     | none=>
      refine⟨none,cZ fj 0,?_⟩;conv=>whnf
      refine⟨[(1000000,.box (.vv [.d (bh c set),.mp 1000001,.mp 1000002])),(1000001,.map (kT (cR (eo c set m x u).2 t 2))),(1000002,.map (kT fa)),(1500000,.box (.vv [.ptr 1000000 0])),(1500001,.box (.dd t.cells)),(1500002,.box (.dd [.bool true]))],s,Wk.sub trivial ⟨rfl,(by rw[<- fF fj];rfl),rfl,rfl,rfl,rfl,rfl,trivial⟩,rfl,hQ _ _ _ ?_⟩;conv=>whnf
      refine bD [] [.d (.bool true)] (km c set (cR (eo c set m x u).2 t 2) fa) rfl ⟨rfl,rfl,rfl,trivial⟩ rfl ⟨⟨?_,?_⟩,rfl⟩
      ·rw[he];rfl
      ·rw[he];rfl
     | some v2=>
      obtain⟨Nt,FY,FZ⟩:=dw fj 0;refine⟨_,FY,?_⟩;conv=>whnf
      refine⟨[(1000000,.box (.vv [.d (bh c set),.mp 1000001,.mp 1000002])),(1000001,.map (kT (cR (eo c set m x u).2 t 2))),(1000002,.map (kT fa)),(1500000,.box (.vv [.ptr 1000000 0])),(1500001,.box (.dd t.cells)),(1500002,.box (.dd [.bool true]))],s,Wk.sub trivial ⟨rfl,(by rw[<- FZ,Nat.zero_add];rfl),rfl,rfl,rfl,rfl,rfl,trivial⟩,rfl,hQ _ _ _ ?_⟩;conv=>whnf
      refine bD [] [.d (.bool true)] (km c set (cR (eo c set m x u).2 t 2) fa) rfl ⟨rfl,rfl,rfl,trivial⟩ rfl ⟨⟨?_,?_⟩,rfl⟩
      ·rw[he];rfl
      ·rw[he];rfl
   ·rintro x ⟨he,IL,_⟩
    rw[List.map_nil,jt]at he;conv=>whnf
    cases fj:cm x t with
    | none=>
     refine⟨none,cZ fj 0,?_⟩;conv=>whnf
     refine bD [] [.d (.bool false)] (km c set (cR x t 3) fa) rfl ⟨rfl,(by rw[<- fF fj];rfl),rfl,trivial⟩ rfl ⟨⟨?_,?_⟩,rfl⟩
     ·rw[he];rfl
     ·rw[he];rfl
    | some v2=>
     obtain⟨Nt,FY,FZ⟩:=dw fj 0;refine⟨_,FY,?_⟩;conv=>whnf
     refine bD [] [.d (.bool false)] (km c set (cR x t 3) fa) rfl ⟨rfl,(by rw[<- FZ,Nat.zero_add];rfl),rfl,trivial⟩ rfl ⟨⟨?_,?_⟩,rfl⟩
     ·rw[he];rfl
     ·rw[he];rfl
 ·have hf:er kn t=false:=by simpa using hf
  cases hk:cm kn t with
  | none=>rw[er,hk]at hf;simp at hf
  | some v=>
   obtain⟨ix,DE,_⟩:=dw hk 0;have hv:v=2\/v=1\/v=3:=by
    rw[er,hk]at hf;simp at hf;omega
   refine⟨_,DE,?_⟩;rcases hv with rfl|rfl|rfl
   ·rw[sM (.inl hk)]
    conv=>whnf
    refine bD [] [.d (.bool true)] (km c set kn fa) rfl ⟨rfl,rfl,rfl,trivial⟩ rfl ⟨⟨rfl,rfl⟩,rfl⟩
   ·rw[sM (.inr hk)]
    conv=>whnf
    refine bD [] [.d (.bool true)] (km c set kn fa) rfl ⟨rfl,rfl,rfl,trivial⟩ rfl ⟨⟨rfl,rfl⟩,rfl⟩
   ·rw[D6 hk]
    conv=>whnf
    refine bD [] [.d (.bool false)] (km c set kn fa) rfl ⟨rfl,rfl,rfl,trivial⟩ rfl ⟨⟨rfl,rfl⟩,rfl⟩
theorem HH{c:ao}(hR:WR c){set:Int}:∀ n,DI c set n
 | 0=>Br hR fun m h=>by omega
 | n+1=>Br hR fun m h=>by
  have:m=n:=by omega
  subst this;exact HH hR m
def gH(c:ao)(set:Int)(t:ag):List ag:=(bQ c set t).map (·.2)
def ez(c:ao)(set:Int):Nat->ag->Prop
 | 0,_=>False
 | n+1,t=>∀ u∈gH c set t,ez c set n u
theorem tA{c:ao}{set:Int}:∀ {n:Nat} {t:ag},ez c set n t->ez c set (n+1) t
 | 0,t,h=>h.elim
 | n+1,t,h=>fun u hu=>tA (h u hu)
theorem gd{c:ao}{set:Int}{n:Nat}{t:ag}(h:ez c set n t):∀ {m:Nat},n<=m->ez c set m t:=by
 intro m hm
 induction hm with
 | refl=>exact h
 | step _ ih=>exact tA ih
def ng(c:ao)(set:Int):Nat->ag->Int
 | 0,_=>0
 | n+1,t=>(gH c set t).foldl (fun x u=>max x (1+ng c set n u)) 0
theorem foldl_congr{α β:Type}{f g:β->α->β}:∀ {l:List α} {x:β},(∀ u∈l,∀ y,f y u=g y u)->l.foldl f x=l.foldl g x
 | [],x,_=>rfl
 | u::r,x,h=>by
  rw[List.foldl_cons,List.foldl_cons,h u (by simp)];exact foldl_congr fun v hv=>h v (by simp[hv])
theorem EB{c:ao}{set:Int}:∀ {n:Nat} {t:ag},ez c set n t->ng c set (n+1) t=ng c set n t
 | 0,t,h=>h.elim
 | n+1,t,h=>by
  rw[ng,ng];exact foldl_congr fun u hu y=>by rw[EB (h u hu)]
theorem EA{c:ao}{set:Int}{n:Nat}{t:ag}(h:ez c set n t){m:Nat}(hm:n<=m):ng c set m t=ng c set n t:=by
 induction hm with
 | refl=>rfl
 | step hm ih=>rw[EB (gd h hm),ih]
theorem IZ{c:ao}{set:Int}{n m:Nat}{t:ag}(h:ez c set n t)(k:ez c set m t):ng c set n t=ng c set m t:=by
 rcases Nat.le_total n m with h1|h1
 ·exact(EA h h1).symm
 ·exact EA k h1
theorem p9{f:ag->Int}{B:Int}:∀ {l:List ag} {x:Int},0<=x->x<=B->(∀ u∈l,1+f u<=B)->0<=l.foldl (fun x u=>max x (1+f u)) x/\l.foldl (fun x u=>max x (1+f u)) x<=B
 | [],x,h0,h1,_=>⟨h0,h1⟩
 | u::r,x,h0,h1,h=>by
  rw[List.foldl_cons];have:=h u (by simp);exact p9 (by omega) (by omega) fun v hv=>h v (by simp[hv])
theorem Ez{c:ao}{set:Int}:∀ (n:Nat) (t:ag),0<=ng c set n t/\ng c set n t<=n
 | 0,t=>by simp[ng]
 | n+1,t=>by
  rw[ng];refine p9 (by omega) (by omega) fun u _=>?_;have:=Ez (c:=c) (set:=set) n u;omega
def xX(c:ao)(set:Int)(fa:Kn):Prop:=∀ t v,cm fa t=some v -> ∃ n,n<=100000/\ez c set n t/\v=ng c set n t
def qu(f:Kn->ag->Int×Kn):Int->Kn->List ag->Int×Kn
 | x,fa,[]=>(x,fa)
 | x,fa,u::r=>qu f (max x (1+(f fa u).1)) (f fa u).2 r
def iR(c:ao)(set:Int):Nat->Kn->ag->Int×Kn
 | 0,fa,_=>(0,fa)
 | n+1,fa,t=>match cm fa t with
  | some v=>(v,fa)
  | none=>((qu (iR c set n) 0 fa (gH c set t)).1,cR (qu (iR c set n) 0 fa (gH c set t)).2 t (qu (iR c set n) 0 fa (gH c set t)).1)
theorem yZ{c:ao}{set:Int}{n:Nat}(ih:∀ {fa:Kn} {t:ag},ez c set n t->xX c set fa->(iR c set n fa t).1=ng c set n t/\xX c set (iR c set n fa t).2) :
  ∀ {l:List ag} {x:Int} {fa:Kn},(∀ u∈l,ez c set n u)->xX c set fa->(qu (iR c set n) x fa l).1=l.foldl (fun x u=>max x (1+ng c set n u)) x/\xX c set (qu (iR c set n) x fa l).2
 | [],x,fa,_,hf=>⟨rfl,hf⟩
 | u::r,x,fa,hd,hf=>by
  obtain⟨h1,h2⟩:=ih (hd u (by simp)) hf;rw[qu,List.foldl_cons,h1];exact yZ ih (fun v hv=>hd v (by simp[hv])) h2
theorem yX{c:ao}{set:Int}:∀ {n:Nat} {fa:Kn} {t:ag},n<=100000->ez c set n t->xX c set fa->(iR c set n fa t).1=ng c set n t/\xX c set (iR c set n fa t).2
 | 0,fa,t,_,hd,_=>hd.elim
 | n+1,fa,t,hn,hd,hf=>by
  rw[iR]
  cases hk:cm fa t with
  | some v=>
   obtain⟨m,CV,JT,SR⟩:=hf t v hk;exact⟨by rw[SR];exact IZ JT hd,hf⟩
  | none=>
   obtain⟨h1,h2⟩:=yZ (n:=n) (fun Er Sw=>yX (by omega) Er Sw) (l:=gH c set t) (x:=0) hd hf;refine⟨h1,fun u v hu=>?_⟩;simp only at hu;rw[bJ]at hu;split at hu
   ·rename_i e
    subst e;cases hu;exact⟨n+1,hn,hd,h1⟩
   ·exact h2 u v hu
def DL(c:ao)(set:Int)(n:Nat):Prop:=
 ∀ (kn fa:Kn) (t:ag),fJ c t->ez c set n t->xX c set fa->zH Try.prog 77 [.ptr 1000000 0,.d t.d] (km c set kn fa) fun v h'=>v = .d (i64 (iR c set n fa t).1)/\h'=km c set kn (iR c set n fa t).2
theorem G3{c:ao}(hR:WR c){set:Int}{n:Nat}(hn:n+1<=100000)(ih:DL c set n):DL c set (n+1):=by
 intro kn fa t ht hd O9 σ Y s;refine ic mixed aI Try.func77 rfl (ft:=KM) (args:=[.ptr 1000000 0,.d t.d]) (show zK KM Try.f77 2=true from by decide +kernel) ?_;conv=>whnf
 cases hk:cm fa t with
 | some v=>
  obtain⟨ix,DE,LY⟩:=dw hk 0;refine⟨_,DE,?_⟩;conv=>whnf
  refine bD [] [.d (i64 v)] (km c set kn fa) rfl ⟨rfl,rfl,rfl,trivial⟩ rfl ⟨⟨?_,?_⟩,rfl⟩
  ·rw[iR,hk];rfl
  ·rw[iR,hk]
 | none=>
  have hl:iR c set (n+1) fa t=((qu (iR c set n) 0 fa (gH c set t)).1,cR (qu (iR c set n) 0 fa (gH c set t)).2 t (qu (iR c set n) 0 fa (gH c set t)).1):=by rw[iR,hk]
  rw[hl];refine⟨none,cZ hk 0,?_⟩;conv=>whnf
  refine aE (ds:=[bh c set,t.d]) (Bd c set t) rfl rfl ?_;conv=>whnf
  obtain⟨sW,su⟩:=ht.tok hR;refine gK.wk (st':=⟨[(2,.ptr 2 0),(3,.ptr 3 0),(5,.ptr 5 0),(25,.d (.clo 93 [.ref [bh c set],.ref t.cells]))],[(1000000,.box (.vv [.d (bh c set),.mp 1000001,.mp 1000002])),(1000001,.map (kT kn)),(1000002,.map (kT fa)),(2,.box (.vv [.ptr 1000000 0])),(3,.box (.dd t.cells)),(5,.box (.dd [i64 0]))],s⟩) aw ?_;refine fp aI (by exact au mixed aI (by decide +kernel)) (by exact au mixed aI (by decide +kernel)) rfl 1500000 1600000 [2,3,5] (by exact kh c hR set t sW su)
   (fun(x:Int×Kn)=>([(1000000,.box (.vv [.d (bh c set),.mp 1000001,.mp 1000002])),(1000001,.map (kT kn)),(1000002,.map (kT x.2)),(1500000,.box (.vv [.ptr 1000000 0])),(1500001,.box (.dd t.cells)),(1500002,.box (.dd [i64 x.1]))],s))
   (fun(rest:List (List Int×ag)) x=>qu (iR c set n) 0 fa (gH c set t)=qu (iR c set n) x.1 x.2 (rest.map (·.2))/\(0<=x.1/\x.1<=100000)/\xX c set x.2 /\ ∀ p∈rest,fJ c p.2/\ez c set n p.2) (0,fa) rfl rfl rfl ⟨rfl,by simp,O9,fun p hp=>⟨eR hR ht hp,hd p.2 (List.mem_map.2 ⟨p,hp,rfl⟩)⟩⟩ ?_ ?_
  ·rintro ⟨g,u⟩ rest ⟨x,fx⟩ ⟨he,hx,Nf,iY⟩ Q vj -
   refine⟨⟨rfl,jT _⟩,?_⟩;obtain⟨hu,IP⟩:fJ c u/\ez c set n u:=iY (g,u) (by simp);rw[List.map_cons,qu]at he;simp only at hx Nf he;obtain⟨h1,h2⟩:=yX (c:=c) (set:=set) (n:=n) (by omega) IP Nf;have h3:=Ez (c:=c) (set:=set) n u;conv=>whnf
   refine bY (ih kn fx u hu IP Nf) [1000000,1000001,1000002] rfl ⟨_,_,rfl,rfl,_,_,rfl,rfl,_,_,rfl,rfl,rfl⟩ rfl ?_;conv=>whnf
   refine ah ?_;conv=>whnf
   exact⟨(max x (1+(iR c set n fx u).1),(iR c set n fx u).2),aw,rfl,vj _ ⟨he,by simp only;omega,h2,fun p hp=>iY p (by simp[hp])⟩⟩
  ·rintro ⟨x,fx⟩ ⟨he,hx,Nf,_⟩
   rw[List.map_nil,qu]at he;simp only at he;rw[he];conv=>whnf
   cases fj:cm fx t with
   | none=>
    refine⟨none,cZ fj 0,?_⟩;conv=>whnf
    refine bD [] [.d (i64 x)] (km c set kn (cR fx t x)) rfl ⟨rfl,rfl,(by rw[<- fF fj];rfl),trivial⟩ rfl ⟨⟨rfl,rfl⟩,rfl⟩
   | some v2=>
    obtain⟨Nt,FY,FZ⟩:=dw fj 0;refine⟨_,FY,?_⟩;conv=>whnf
    refine bD [] [.d (i64 x)] (km c set kn (cR fx t x)) rfl ⟨rfl,rfl,(by rw[<- FZ,Nat.zero_add];rfl),trivial⟩ rfl ⟨⟨rfl,rfl⟩,rfl⟩
theorem Ib{c:ao}(hR:WR c){set:Int}:∀ n,n<=100000->DL c set n
 | 0,_=>fun kn fa t ht hd=>hd.elim
 | n+1,h=>G3 hR h (Ib hR n (by omega))
inductive Rp(c:ao)(set:Int):ag->ag->Prop
 | one {t u:ag} (h:u∈gH c set t):Rp c set t u
 | cons {t w u:ag} (h:w∈gH c set t) (k:Rp c set w u):Rp c set t u
theorem Rp.snoc{c:ao}{set:Int}{t w u:ag}(h:Rp c set t w)(k:u∈gH c set w):Rp c set t u:=by
 induction h with
 | one h=>exact .cons h (.one k)
 | cons h _ ih=>exact .cons h (ih k)
theorem D3{c:ao}{set:Int}{t u:ag}(h:Rp c set t u):∀ {n:Nat},ez c set (n+1) t->ez c set n u:=by
 induction h with
 | one h=>exact fun hd=>hd _ h
 | cons h _ ih=>
  intro n hd;have h1:=hd _ h
  cases n with
  | zero=>exact h1.elim
  | succ n=>exact tA (ih h1)
def alive(c:ao)(set:Int)(t:ag):Prop:=∀ n,¬ ez c set n t
theorem rH{c:ao}{set:Int}{t:ag}(h:Rp c set t t):alive c set t:=by
 intro n
 induction n with
 | zero=>exact fun h=>h
 | succ n ih=>exact fun hd=>ih (D3 h hd)
theorem zT{c:ao}{set:Int}{t u:ag}(h:u∈gH c set t)(ha:alive c set u):alive c set t:=by
 intro n hd
 cases n with
 | zero=>exact hd
 | succ n=>exact ha n (hd u h)
def sf(c:ao)(kn:Kn):Nat:=((univ c).filter fun u=>cm kn u !=some 3).length
theorem Gi(c:ao)(kn:Kn):sf c kn<=(univ c).length:=List.length_filter_le ..
def mS(a b:Kn):Prop:=∀ u,cm a u=some 3->cm b u=some 3
theorem mS.Gh{c:ao}{a b:Kn}(h:mS a b):sf c b<=sf c a:=by
 refine filter_le (fun u hu=>?_) _;simp only[bne_iff_ne,ne_eq]at hu ⊢;exact fun h3=>hu (h u h3)
theorem DY{c:ao}{kn:Kn}{t:ag}(ht:fJ c t)(h:cm kn t≠some 3):sf c (cR kn t 3)<sf c kn:=by
 refine filter_lt (fun u hu=>?_) ht.mem ?_ ?_
 ·simp only[bne_iff_ne,ne_eq,bJ]at hu ⊢
  intro h3;apply hu;split
  ·rfl
  ·exact h3
 ·simp[h]
 ·simp[bJ]
structure oN(c:ao)(set:Int)(kn:Kn):Prop where
 two:∀ u,cm kn u=some 2->alive c set u
 three:∀ u,cm kn u=some 3->ez c set ((univ c).length-sf c kn) u
structure wT(c:ao)(set:Int)(kn:Kn)(t:ag)(r:Bool×Kn):Prop where
 yes:r.1=true->alive c set t
 no:r.1=false->ez c set ((univ c).length-sf c r.2) t
 Mv:oN c set r.2
 Js:∀ u,cm r.2 u=some 1->cm kn u=some 1
 RK:mS kn r.2
theorem FB{c:ao}{set:Int}{t:ag}{f:Kn->ag->Bool×Kn}{n:Nat}(hf:∀ kn u,fJ c u->sg c kn<=n->oN c set kn->(∀ w,cm kn w=some 1->Rp c set w u)->wT c set kn u (f kn u))(hle:∀ kn u,tc kn (f kn u).2) :
  ∀ (l:List ag) (kn:Kn),(∀ u∈l,fJ c u/\u∈gH c set t)->sg c kn<=n->oN c set kn->(∀ w,cm kn w=some 1->w=t\/Rp c set w t) ->
   ((jt f kn l).1=true -> ∃ u∈l,alive c set u)/\((jt f kn l).1=false -> ∀ u∈l,ez c set ((univ c).length-sf c (jt f kn l).2) u)/\oN c set (jt f kn l).2/\(∀ u,cm (jt f kn l).2 u=some 1->cm kn u=some 1)/\mS kn (jt f kn l).2
 | [],kn,_,_,hk,_=>⟨fun h=>by simp[jt]at h,fun _ u hu=>by simp at hu,hk,fun u hu=>hu,fun u hu=>hu⟩
 | u::r,kn,hl,hc,hk,ho=>by
  obtain⟨hu,RF⟩:=hl u (by simp);have hp:=hf kn u hu hc hk fun w hw=>by
   rcases ho w hw with rfl|h
   ·exact .one RF
   ·exact h.snoc RF
  rw[jt]
  cases hb:(f kn u).1 with
  | true=>
   simp only[if_true];exact⟨fun _=>⟨u,by simp,hp.yes hb⟩,fun h=>by simp at h,hp.Mv,hp.Js,hp.RK⟩
  | false=>
   simp only[Bool.false_eq_true,if_false];obtain⟨h1,h2,h3,h4,h5⟩:=FB hf hle r (f kn u).2 (fun v hv=>hl v (by simp[hv])) (Nat.le_trans (hle kn u).Gh hc) hp.Mv fun w hw=>ho w (hp.Js w hw);refine⟨fun h=>?_,fun h v hv=>?_,h3,fun v hv=>hp.Js v (h4 v hv),fun v hv=>h5 v (hp.RK v hv)⟩
   ·obtain⟨v,hv,Ti⟩:=h1 h
    exact⟨v,by simp[hv],Ti⟩
   ·rcases List.mem_cons.1 hv with rfl|hv
    ·refine gd (hp.no hb) ?_
     have:=h5.Gh (c:=c);omega
    ·exact h2 h v hv
theorem Gm{c:ao}(hR:WR c){set:Int}:∀ (n:Nat) (kn:Kn) (t:ag),fJ c t->sg c kn<=n->oN c set kn->(∀ w,cm kn w=some 1->Rp c set w t)->wT c set kn t (eo c set n kn t):=by
 intro n
 induction n with
 | zero=>
  intro kn t ht hc hk ho;have hf:er kn t=false:=by
   cases h:er kn t with
   | false=>rfl
   | true=>exact absurd (sH ht h) (by omega)
  rw[eo];refine⟨fun h=>?_,fun h=>?_,hk,fun u hu=>hu,fun u hu=>hu⟩
  ·simp at h
   rcases h with h|h
   ·exact hk.two t h
   ·exact rH (ho t h)
  ·simp only[Bool.or_eq_false_iff,beq_eq_false_iff_ne]at h
   refine hk.three t ?_;simp only[er,Bool.not_eq_false',Bool.or_eq_true,beq_iff_eq]at hf;rcases hf with(hf|hf)|hf
   ·exact absurd hf h.2
   ·exact absurd hf h.1
   ·exact hf
 | succ n ih=>
  intro kn t ht hc hk ho;by_cases hf:er kn t=true
  ·have h3:cm kn t≠some 3:=fun h=>by rw[er,h]at hf;simp at hf
   have dC:oN c set (cR kn t 1):=by
    refine⟨fun u hu=>?_,fun u hu=>?_⟩
    ·rw[bJ]at hu
     split at hu
     ·cases hu
     ·exact hk.two u hu
    ·rw[bJ]at hu
     split at hu
     ·cases hu
     ·refine gd (hk.three u hu) ?_
      have:mS kn (cR kn t 1):=by
       intro v hv;rw[bJ];split
       ·rename_i e;subst e;exact absurd hv h3
       ·exact hv
      have:=this.Gh (c:=c);omega
   obtain⟨h1,h2,h4,h5,h6⟩:=FB (t:=t) ih (fun kn u=>sN n kn u) ((bQ c set t).map (fun p:List Int×ag=>p.2)) (cR kn t 1) (fun u hu=>⟨by
    obtain⟨p,hp,rfl⟩:=List.mem_map.1 hu;exact eR hR ht hp,(show u∈gH c set t from hu)⟩) (by have:=sH ht hf;omega) dC (fun w hw=>by
    rw[bJ]at hw;split at hw
    ·rename_i e;exact .inl e
    ·exact .inr (ho w hw))
   rw[yj hf];generalize hr:jt (eo c set n) (cR kn t 1) ((bQ c set t).map (·.2))=r at h1 h2 h4 h5 h6;have ha:r.1=true->alive c set t:=fun h=>by
    obtain⟨u,hu,P6⟩:=h1 h;exact zT hu P6
   have FO:mS kn r.2:=fun u hu=>h6 u (by
    rw[bJ];split
    ·rename_i e;subst e;exact absurd hu h3
    ·exact hu)
   cases hb:r.1 with
   | true=>
    simp only[if_true];have sQ:=ha hb;have Nl:cm r.2 t≠some 3:=fun h=>sQ _ (h4.three t h);have HV:mS r.2 (cR r.2 t 2):=by
     intro v hv;rw[bJ];split
     ·rename_i e;subst e;exact absurd hv Nl
     ·exact hv
    refine⟨fun _=>sQ,fun h=>by simp at h,⟨fun u hu=>?_,fun u hu=>?_⟩,fun u hu=>?_,fun u hu=>HV u (FO u hu)⟩
    ·rw[bJ]at hu
     split at hu
     ·rename_i e;subst e;exact sQ
     ·exact h4.two u hu
    ·rw[bJ]at hu
     split at hu
     ·cases hu
     ·refine gd (h4.three u hu) ?_
      have:=HV.Gh (c:=c);show _<=(univ c).length-sf c (cR r.2 t 2);omega
    ·rw[bJ]at hu
     split at hu
     ·cases hu
     ·rename_i e
      have:=h5 u hu;rw[bJ,if_neg e]at this;exact this
   | false=>
    simp only[Bool.false_eq_true,if_false];have hd:=h2 hb;have HV:mS r.2 (cR r.2 t 3):=by
     intro v hv;rw[bJ];split
     ·rfl
     ·exact hv
    have hD:=Gi c r.2;have Gx:ez c set ((univ c).length-sf c r.2+1) t:=fun u hu=>hd u hu;have Ld:ez c set ((univ c).length-sf c (cR r.2 t 3)) t:=by
     by_cases Nl:cm r.2 t=some 3
     ·refine gd (h4.three t Nl) ?_
      have:=HV.Gh (c:=c);omega
     ·refine gd Gx ?_
      have:=DY ht Nl;omega
    refine⟨fun h=>by simp at h,fun _=>Ld,⟨fun u hu=>?_,fun u hu=>?_⟩,fun u hu=>?_,fun u hu=>HV u (FO u hu)⟩
    ·rw[bJ]at hu
     split at hu
     ·cases hu
     ·exact h4.two u hu
    ·rw[bJ]at hu
     split at hu
     ·rename_i e;subst e;exact Ld
     ·refine gd (h4.three u hu) ?_
      have:=HV.Gh (c:=c);show _<=(univ c).length-sf c (cR r.2 t 3);omega
    ·rw[bJ]at hu
     split at hu
     ·cases hu
     ·rename_i e
      have:=h5 u hu;rw[bJ,if_neg e]at this;exact this
  ·have hf:er kn t=false:=by simpa using hf
   simp only[er,Bool.not_eq_false',Bool.or_eq_true,beq_iff_eq]at hf;rcases hf with(hf|hf)|hf
   ·rw[sM (.inr hf)]
    exact⟨fun _=>rH (ho t hf),fun h=>by simp at h,hk,fun u hu=>hu,fun u hu=>hu⟩
   ·rw[sM (.inl hf)]
    exact⟨fun _=>hk.two t hf,fun h=>by simp at h,hk,fun u hu=>hu,fun u hu=>hu⟩
   ·rw[D6 hf]
    exact⟨fun h=>by simp at h,fun _=>hk.three t hf,hk,fun u hu=>hu,fun u hu=>hu⟩
structure iZ(c:ao)(set:Int)(kn:Kn):Prop where
 Mv:oN c set kn
 Js:∀ w,cm kn w≠some 1
theorem iZ.nil{c:ao}{set:Int}:iZ c set []:=⟨⟨fun u h=>(by cases h),fun u h=>(by cases h)⟩,fun w h=>by cases h⟩
def fX:Nat:=46656
def fh(c:ao)(set:Int)(t:ag):Bool:=(eo c set fX [] t).1
theorem n6{c:ao}(hR:WR c):(univ c).length<=fX:=by
 rw[FD];have:=hR.aS;unfold fX;omega
theorem vN{c:ao}(hR:WR c)(kn:Kn):sg c kn<=fX:=Nat.le_trans (List.length_filter_le ..) (n6 hR)
theorem pX{c:ao}(hR:WR c){set:Int}{kn:Kn}(hk:iZ c set kn){t:ag}(ht:fJ c t):wT c set kn t (eo c set fX kn t):=
 Gm hR fX kn t ht (vN hR kn) hk.Mv fun w hw=>absurd hw (hk.Js w)
theorem D7{c:ao}(hR:WR c){set:Int}{kn:Kn}(hk:iZ c set kn){t:ag}(ht:fJ c t):iZ c set (eo c set fX kn t).2:=
 ⟨(pX hR hk ht).Mv,fun w hw=>hk.Js w ((pX hR hk ht).Js w hw)⟩
theorem Bq{c:ao}(hR:WR c){set:Int}{kn:Kn}(hk:iZ c set kn){t:ag}(ht:fJ c t):(eo c set fX kn t).1=true↔alive c set t:=by
 have hp:=pX hR hk ht;refine⟨hp.yes,fun ha=>?_⟩
 cases hb:(eo c set fX kn t).1 with
 | true=>rfl
 | false=>exact absurd (hp.no hb) (ha _)
theorem tB{c:ao}(hR:WR c){set:Int}{t:ag}(ht:fJ c t):fh c set t=true↔alive c set t:=Bq hR .nil ht
theorem Ix{c:ao}(hR:WR c){set:Int}{kn:Kn}(hk:iZ c set kn){t:ag}(ht:fJ c t):(eo c set fX kn t).1=fh c set t:=by
 rw[Bool.eq_iff_iff,Bq hR hk ht,tB hR ht]
theorem Cn{c:ao}(hR:WR c){set:Int}{t:ag}(ht:fJ c t)(h:fh c set t=false):ez c set fX t:=by
 refine gd ((pX hR (set:=set) .nil ht).no h) ?_;have:=n6 hR;omega
theorem Hv(c:ao)(set:Int):zH Try.prog 72 [.d (bh c set)] [] fun v h'=>v = .ptr 2000002 0/\h' = [(2000000,.map []),(2000001,.map []),(2000002,.box (.vv [.d (bh c set),.mp 2000000,.mp 2000001]))]:=by
 intro σ Y s;refine ic mixed aI Try.func72 rfl (ft:=Gp) (args:=[.d (bh c set)]) (show zK Gp Try.f72 1=true from by decide +kernel) ?_;conv=>whnf
 exact bD [4,5,7] [.ptr 2000002 0] [(2000000,.map []),(2000001,.map []),(2000002,.box (.vv [.d (bh c set),.mp 2000000,.mp 2000001]))] rfl ⟨rfl,rfl,rfl,trivial⟩ rfl ⟨⟨rfl,rfl⟩,rfl⟩
theorem iJ{c:ao}(hR:WR c){set:Int}{kn:Kn}(hk:iZ c set kn)(fa:Kn){t:ag}(ht:fJ c t):∃ EX,iZ c set EX/\zH Try.prog 73 [.ptr 1000000 0,.d t.d] (km c set kn fa) fun v h'=>v = .d (.bool (fh c set t))/\h'=km c set EX fa:=
 ⟨_,D7 hR hk ht,by
  rw[<- Ix hR hk ht];exact HH hR fX kn fa t ht (vN hR kn)⟩
theorem EZ{c:ao}(hR:WR c){set:Int}(kn:Kn){t:ag}(ht:fJ c t)(hb:fh c set t=false):∃ R1,zH Try.prog 77 [.ptr 1000000 0,.d t.d] (km c set kn []) fun v h'=>v = .d (i64 (iR c set fX [] t).1)/\h'=km c set kn R1:=
 ⟨_,Ib hR fX (by decide) kn [] t ht (Cn hR ht hb) (fun t v h=>by cases h)⟩
def Jo(c:ao):Int:=if fh c (aB c) .zero then -1 else (iR c (aB c) fX [] .zero).1
theorem QD(c:ao):cy Try.prog 28 [c.d] (.tup [i64 (if b0 c []=0 then Jo c else 0),i64 (b0 c [])]):=by
 refine bx Try.func28 rfl (ft:=NU) 1 fun {σ} Y st=>?_;conv=>whnf
 refine lO ?_;refine aH (ds:=[c.d,aJ []]) (zE c []) rfl rfl ?_;conv=>whnf
 by_cases h0:b0 c []=0
 ·obtain⟨hR,hl,_⟩:=eZ h0
  rw[h0];simp only[if_true];conv=>whnf
  refine cw (Hv c (aB c)) [] rfl rfl rfl ?_;conv=>whnf
  obtain⟨Me,dC,hE⟩:=iJ hR (set:=aB c) .nil [] (fJ.zero hR);refine cw hE [101026,101024,101025] rfl ?lent rfl ?_;case lent=>exact⟨_,_,rfl,dE rfl ⟨rfl,rfl,rfl,trivial⟩,_,_,rfl,rfl,_,_,rfl,rfl,rfl⟩
  unfold Jo
  cases hb:fh c (aB c) .zero with
  | true=>
   conv=>whnf
   exact ax
  | false=>
   conv=>whnf
   obtain⟨TT,hL⟩:=EZ hR Me (fJ.zero hR) hb;generalize (iR c (aB c) fX [] .zero).1=lv at hL ⊢;refine cw hL [101026,101024,101025] rfl ?lent rfl ?_;case lent=>exact⟨_,_,rfl,dE rfl ⟨rfl,rfl,rfl,trivial⟩,_,_,rfl,rfl,_,_,rfl,rfl,rfl⟩
   conv=>whnf
   exact ax
 ·rw[if_neg h0,if_neg h0]
  conv=>whnf
  refine ak (fun _=>?_) (fun h1=>absurd h1 (by simp[h0]));conv=>whnf
  exact ax
def BU(c:ao)(t:ag):List (List Int×ag):=(bQ c (aB c) t).filter fun p=>fh c (aB c) p.2
def E5(c:ao)(rota:List (List Int)):List (List Int):=(BU c (na c rota)).map (·.1)
theorem u9{c:ao}(hR:WR c){set:Int}:∀ {rota:List (List Int)} {t:ag} {i:Int},0<=i->fJ c t->(bP c set t rota i).1.1 = -1->fJ c (bP c set t rota i).2
 | [],t,i,_,ht,_=>ht
 | r::rest,t,i,hi,ht,h=>by
  rw[bP]at h ⊢;split
  ·rename_i h1
   rw[if_pos h1]at h;exact u9 hR (by omega) (lT hR ht h1) h
  ·rename_i h1
   rw[if_neg h1]at h;simp only at h;omega
theorem s9{c:ao}{set:Int}:∀ {rota:List (List Int)} {t:ag} {i:Int},(bP c set t rota i).1.1 = -1\/i<=(bP c set t rota i).1.1
 | [],t,i=>.inl rfl
 | r::rest,t,i=>by
  rw[bP];split
  ·rcases s9 (c:=c) (set:=set) (rota:=rest) (t:=aZ c t r) (i:=i+1) with h|h
   ·exact .inl h
   ·exact .inr (by omega)
  ·exact .inr (by simp)
theorem CB{c:ao}{rota:List (List Int)}(h0:df c rota=0):fJ c (na c rota):=by
 have hR:=(tN h0).1;refine u9 hR (Int.le_refl 0) (fJ.zero hR) ?_;have hE:b0 c rota=0:=by
  unfold df at h0;split at h0
  ·assumption
  ·exact h0
 rw[df,if_pos hE]at h0;split at h0
 ·cases h0
 ·rename_i h1
  rcases s9 (c:=c) (set:=aB c) (rota:=rota) (t:=.zero) (i:=0) with h|h
  ·exact h
  ·exact absurd h (by omega)
def Mi(c:ao)(t:ag)(acc:List (List Int))(kn:Kn):av:=
 match acc with
 | []=>[(1500000,.box (.dd c.cells)),(1500001,.box (.dd [.nils])),(1500002,.box (.dd t.cells)),(1500003,.box (.vv [.ptr 1500006 0])),(1500004,.map (kT kn)),(1500005,.map []),(1500006,.box (.vv [.d (bh c (aB c)),.mp 1500004,.mp 1500005]))]
 | g::r=>[(1500000,.box (.dd c.cells)),(1500001,.box (.vv [.sl 35 1 0 (g::r).length])),(1500002,.box (.dd t.cells)),(1500003,.box (.vv [.ptr 1500006 0])),(1500004,.map (kT kn)),(1500005,.map []),(1500006,.box (.vv [.d (bh c (aB c)),.mp 1500004,.mp 1500005])),(35,.arr 1 (.dd ((g::r).map fun r=>[aj r])))]
theorem QC(c:ao)(rota:List (List Int)):cy Try.prog 25 [c.d,aJ rota] (.tup [if df c rota=0 then uS (E5 c rota) else .nils,i64 (df c rota)]):=by
 refine bx Try.func25 rfl (ft:=(NS.more 9 [102112])) 2 fun {σ} Y st=>?_;conv=>whnf
 refine aH (JA c rota) rfl rfl ?_;conv=>whnf
 by_cases h0:df c rota=0
 ·obtain⟨hR,hl,sW,su⟩:=tN h0
  have hU:=CB h0;rw[h0];simp only[if_true];unfold E5;generalize na c rota=t at sW su hU ⊢;conv=>whnf
  refine cw (Hv c (aB c)) [] rfl rfl rfl ?_;conv=>whnf
  refine aH (Bd c (aB c) t) rfl rfl ?_;conv=>whnf
  refine fp aI (by exact au mixed aI (by decide +kernel)) (by exact au mixed aI (by decide +kernel)) rfl 1500000 1600000 [2,4,7,8,101408,101409,101410] (by exact kh c hR (aB c) t sW su)
   (fun(x:List (List Int)×Kn)=>(Mi c t x.1 x.2,st))
   (fun rest x=>(BU c t).map (·.1)=x.1++(rest.filter fun p=>fh c (aB c) p.2).map (fun(p:List Int×ag)=>p.1)/\iZ c (aB c) x.2 /\ ∀ p∈rest,p.1.length<=2/\fJ c p.2) ([],[]) rfl rfl rfl ⟨rfl,.nil,fun p hp=>⟨jK hR hp,eR hR hU hp⟩⟩ ?_ ?_
  ·rintro ⟨g,u⟩ rest ⟨acc,kn⟩ ⟨he,hk,BD⟩ Q vj -
   obtain⟨iX,hu⟩:=BD (g,u) (by simp);have tW:g.length<=1000:=by simp only at iX;omega
   refine⟨⟨rfl,jT _⟩,?_⟩;obtain⟨EX,fK,hE⟩:=iJ hR hk [] hu;have fe:∀ p∈rest,p.1.length<=2/\fJ c p.2:=fun p hp=>BD p (by simp[hp])
   cases acc with
   | nil=>
    conv=>whnf
    refine cw hE [1500006,1500004,1500005] rfl ?lent rfl ?_;case lent=>exact⟨_,_,rfl,dE rfl ⟨rfl,rfl,rfl,trivial⟩,_,_,rfl,rfl,_,_,rfl,rfl,rfl⟩
    cases hb:fh c (aB c) u with
    | false=>
     conv=>whnf
     exact⟨([],EX),aw,rfl,vj _ ⟨by simpa[hb]using he,fK,fe⟩⟩
    | true=>
     conv=>whnf
     refine bY (u7 g tW) [1600000] rfl ⟨_,_,rfl,rfl,rfl⟩ rfl ?_;conv=>whnf
     refine ar rfl ?_;conv=>whnf
     exact⟨([g],EX),(Wk.l7 1 [102112] 35 (vs:=[[.sl 102112 1 0 g.length]]) (ds:=[[aj g]]) rfl (gv (aV (bI rfl (by simp[aA])) rfl))).trans aw,rfl,vj _ ⟨by simpa[hb]using he,fK,fe⟩⟩
   | cons a r=>
    conv=>whnf
    refine cw hE [1500006,1500004,1500005] rfl ?lent rfl ?_;case lent=>exact⟨_,_,rfl,dE rfl ⟨rfl,rfl,rfl,trivial⟩,_,_,rfl,rfl,_,_,rfl,rfl,rfl⟩
    cases hb:fh c (aB c) u with
    | false=>
     conv=>whnf
     exact⟨(a::r,EX),aw,rfl,vj _ ⟨by simpa[hb]using he,fK,fe⟩⟩
    | true=>
     conv=>whnf
     refine bY (u7 g tW) [1600000] rfl ⟨_,_,rfl,rfl,rfl⟩ rfl ?_;conv=>whnf
     refine ar rfl ?_;conv=>whnf
     refine ar (by simp[aC.len]) ?_;conv=>whnf
     have sj:(a::r).length<=25:=by
      have h1:((BU c t).map (·.1)).length<=25:=by
       rw[List.length_map];exact Nat.le_trans (List.length_filter_le ..) (nb hR)
      rw[he]at h1;simp at h1 ⊢;omega
     have dB:(true && !dJ 35 ((aO ((a::r).map fun r=>[aj r]) ++ [[V.sl 102112 1 0 g.length]]).flatten))=true:=by
      rw[iS];rfl
     refine aR dB ?_;conv=>whnf
     refine aR (decide_eq_true (by
      show(((a::r).map fun r=>[aj r]).length+1)*24<=140737488355328;rw[List.length_map];omega)) ?_
     conv=>whnf
     refine lj [102112,35] (by
      show bm ((aO ((a::r).map fun r=>[aj r]) ++ [[V.sl 102112 1 0 g.length]]).flatten)++([35] ++ [])=_;rw[iD];rfl) ?_
     conv=>whnf
     refine⟨(a::r ++ [g],EX),(Wk.l7 1 [102112] 35 (sz:=1) (vs:=aO ((a::r).map fun r=>[aj r]) ++ [[.sl 102112 1 0 g.length]]) (ds:=((a::r).map fun r=>[aj r]) ++ [[aj g]]) ?_ (gu (gv (aV (bI rfl (by simp[aA])) rfl)) _)).trans ?_,rfl,vj _ ⟨by simpa[hb]using he,fK,fe⟩⟩
     ·rfl
     ·refine Wk.sub trivial ⟨rfl,?_,rfl,rfl,rfl,rfl,rfl,?_,rfl,trivial⟩
      ·show some (Obj.box (Cells.vv [V.sl 35 1 0 (((a::r).map fun r=>[aj r]).length+1)]))=some (Obj.box (Cells.vv [V.sl 35 1 0 (a::(r ++ [g])).length]))
       simp
      ·show some (Obj.arr 1 (aC.dd (((a::r).map fun r=>[aj r]) ++ [[aj g]])))=some (Obj.arr 1 (aC.dd ((a::(r ++ [g])).map fun r=>[aj r])))
       simp
  ·rintro ⟨acc,kn⟩ ⟨he,_,_⟩
   have he:(BU c t).map (·.1)=acc:=by simpa using he
   rw[he]
   cases acc with
   | nil=>
    conv=>whnf
    refine ba 0 rfl ⟨⟨?_,rfl⟩,rfl⟩;simp[j6,uS]
   | cons a r=>
    conv=>whnf
    refine ba 1 (ds:=[aJ (a::r),i64 0]) ?_ ⟨⟨?_,rfl⟩,rfl⟩
    ·exact aV (bI (es:=(a::r).map fun r=>[aj r]) rfl (by simp)) rfl
    ·simp[j6,uS]
 ·rw[if_neg h0,if_neg h0]
  conv=>whnf
  refine ak (fun _=>?_) (fun h1=>absurd h1 (by simp[h0]));conv=>whnf
  rw[if_neg h0];exact ax
end Go.PX
