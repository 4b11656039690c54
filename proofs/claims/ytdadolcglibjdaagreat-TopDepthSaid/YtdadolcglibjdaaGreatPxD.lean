import Derived.Test.YtdadolcglibjdaaGreatPxC
import Derived.Deep.AppendSrc
import Derived.ChangeKeysEq
set_option linter.all false
namespace Go.PX
open Go.RowKit
section
variable {σ : Type} {cx : Cx σ} {r : Option Nat} {m : List Nat} {L : Loc} {F : Nat -> Nat} {st : St σ} {a : Act} {w : World}
theorem Good.H2(hh:Good cx r m L F st a w){id d:Nat}{o0 o:Obj}(Wn:¬ pinned d)(h0:get st.heap id=some o0)(qk:aJ L id o0){w':World}
  (NH:w'.os=w.os) (ht:w'.tape=w.tape) (hu:w'.output=w.output) (cY:w'.heap.size=w.heap.size) (hk:∀ b,b≠L.ρ id->w'.heap[b]?=w.heap[b]?)
  (wD:∀ ds,w.heap[L.ρ id]?≠some (.deferred ds)) (nh:∀ lp,w.heap[L.ρ id]?≠some (.loop lp))
  (ho:bF cx.yv ⟨fun i=>if i=d then L.ρ id else L.ρ i,fun i=>if i=d then L.κ id else L.κ i⟩ F w' d o) :
  Good cx r m ⟨fun i=>if i=d then L.ρ id else L.ρ i,fun i=>if i=d then L.κ id else L.κ i⟩ F (bm (bm st (.del id)) (.new d o)) a w'/\Tr F w F w':=by
 obtain⟨hF,FR⟩:=hh.heap.own id o0 h0 qk;have tr:Tr F w F w':=.gz NH ht hu (by omega) (fun _=>Nat.le_refl _) hh.heap.fresh fun b _ Vt=>hk b (by rintro rfl;omega);have hC:∀ c,cx.C st.s c->w'.heap[c]?=w.heap[c]?:=fun c hc=>hk c (by rintro rfl;exact FR hc);have hg:∀ i o',get (bm (bm st (.del id)) (.new d o)).heap i=some o'->(i=d/\o'=o)\/(i≠d/\i≠id /\ ∃ o1,get st.heap i=some o1/\o'=Obj.aE (aZ d) o1):=by
  intro i o' hi;simp only[bm,dQ,db,bs,dP]at hi;split at hi
  ·rename_i e;left;exact⟨e,by cases hi;rfl⟩
  ·rename_i e
   right;by_cases dR:i=id
   ·simp[dR]at hi
   ·refine⟨e,dR,?_⟩
    cases h1:get st.heap i with
    | none=>simp[h1]at hi
    | some o1=>simp[h1,dR]at hi;exact⟨o1,rfl,hi.symm⟩
 have key:∀ i o',get (bm (bm st (.del id)) (.new d o)).heap i=some o'->i≠d->aJ ⟨fun i=>if i=d then L.ρ id else L.ρ i,fun i=>if i=d then L.κ id else L.κ i⟩ i o'->i≠id /\ ∃ o1,get st.heap i=some o1/\aJ L i o1:=by
  intro i o' hi ef hb;rcases hg i o' hi with⟨rfl,rfl⟩|⟨_,dR,o1,h1,rfl⟩
  ·exact absurd rfl ef
  ·refine⟨dR,o1,h1,?_⟩
   have:=(cM _ d i o1).1 hb;cases o1<;>simp_all[aJ]
 refine⟨⟨⟨cx.eJ hh.heap.hg tr (fun c hc=>hh.heap.fresh c (by omega)) fun c hc=>⟨hC c hc,rfl⟩,fun c hc=>by rw[cY];exact hh.heap.j6 c hc,fun c hc=>hh.heap.fresh c (by omega),?_,?_,?_⟩,?_,hh.wA,?_,hh.wS,?_,fun i hi=>?_,hh.wm⟩,tr⟩
 ·intro i o' hi
  rcases hg i o' hi with⟨rfl,rfl⟩|⟨ef,dR,o1,h1,rfl⟩
  ·exact ho
  ·refine bF.mono (L:=L) tr i _ (fun j hj=>?_) ⟨by simp[ef],by simp[ef]⟩ (fun hb=>hk _ ?_) (bF.kill d i o1 (hh.heap.obj i o1 h1))
   ·have:j≠d:=by rintro rfl;exact lb j o1 hj
    simp[this]
   ·intro e
    exact dR (hh.heap.inj i id o1 o0 h1 h0 ((cM L d i o1).1 hb) qk e)
 ·intro i o' hi hb
  by_cases g8:i=d
  ·subst g8;simp only[if_true];exact⟨hF,FR⟩
  ·obtain⟨_,o1,h1,nY⟩:=key i o' hi g8 hb
   simp only[g8,if_false];exact hh.heap.own i o1 h1 nY
 ·intro i j o' p hi hj md jv e
  by_cases g8:i=d<;>by_cases xI:j=d
  ·rw[g8,xI]
  ·exfalso
   obtain⟨MD,p1,xJ,zc⟩:=key j p hj xI jv;simp[g8,xI]at e;exact MD (hh.heap.inj j id p1 o0 xJ h0 zc qk e.symm)
  ·exfalso
   obtain⟨MA,p1,xJ,zc⟩:=key i o' hi g8 md;simp[g8,xI]at e;exact MA (hh.heap.inj i id p1 o0 xJ h0 zc qk e)
  ·obtain⟨_,o1,MJ,nY⟩:=key i o' hi g8 md
   obtain⟨_,p1,xJ,zc⟩:=key j p hj xI jv;simp only[g8,xI,if_false]at e;exact hh.heap.inj i j o1 p1 MJ xJ nY zc e
 ·intro s v hs
  simp only[bm,bs]at hs
  cases h1:get st.env s with
  | none=>simp[h1]at hs
  | some v0=>
   simp[h1]at hs;subst hs;obtain⟨x,hx,hr⟩:=hh.env s v0 h1;refine⟨x,hx,aT.mono tr _ x (fun j hj=>?_) (aT.kill d v0 x hr)⟩;have:j≠d:=by rintro rfl;exact iV j v0 hj
   simp[this]
 ·intro b hb
  have:=(hh.pR b hb).1;exact⟨by rw[hk b (by rintro rfl;exact wD _ this)];exact this,(hh.pR b hb).2⟩
 ·intro l hl
  obtain⟨lp,wL⟩:=hh.lk l hl;exact⟨lp,⟨by rw[hk l (by rintro rfl;exact nh _ wL.1.1)];exact wL.1.1,wL.1.2⟩,wL.2⟩
 ·have:i≠d:=by rintro rfl;exact Wn hi
  simp only[this,if_false];exact hh.mT i hi
end
theorem a7.iU(c:a7):c.len=c.bo.length:=by
 cases c<;>simp[a7.len,a7.bo,cq]
theorem a7.ou(c:a7)(off n:Nat):(c.part off n).bo=(c.bo.drop off).take n:=by
 cases c<;>simp[a7.part,a7.bo,cq,List.map_drop,List.map_take]
theorem a7.yJ(c x:a7):(c.app x).bo=c.bo++x.bo:=by
 cases c<;>cases x<;>simp[a7.app,a7.bo,cq]
theorem fW{α:Type}{sz:Nat}:∀ {es:List (List α)} (n:Nat),cK sz es->(es.take n).flatten=es.flatten.take (n*sz)
 | [],n,_=>by simp
 | f::es,0,_=>by simp
 | f::es,n+1,h=>by
  have hf:=h f (List.mem_cons_self ..);have e1:(n+1)*sz=f.length+n*sz:=by rw[Nat.succ_mul];omega
  rw[List.take_succ_cons,List.flatten_cons,List.flatten_cons,fW n (fun e he=>h e (List.mem_cons_of_mem _ he)),e1,List.take_length_add_append]
theorem mz{α:Type}{sz:Nat}:∀ {es:List (List α)} (n:Nat),cK sz es->(es.drop n).flatten=es.flatten.drop (n*sz)
 | [],n,_=>by simp
 | f::es,0,_=>by simp
 | f::es,n+1,h=>by
  have hf:=h f (List.mem_cons_self ..);have e1:(n+1)*sz=f.length+n*sz:=by rw[Nat.succ_mul];omega
  rw[List.drop_succ_cons,List.flatten_cons,mz n (fun e he=>h e (List.mem_cons_of_mem _ he)),e1,List.drop_length_add_append]
section
variable {yv : Option Nat} {L : Loc} {F : Nat -> Nat} {w : World}
theorem cG.cells{b off sz:Nat}:∀ {es:List (List D)},cG F w b off sz es -> ∃ l:List Value,aS F w es.flatten l/\l.length=es.length*sz /\ ∀ (j:Nat) v,l[j]?=some v->w.cell? ⟨b,off+j,none⟩=some v:=by
 intro es;have at_:∀ {cs:List D} {o:Nat},cc F w b o cs -> ∃ l:List Value,aS F w cs l /\ ∀ (j:Nat) v,l[j]?=some v->w.cell? ⟨b,o+j,none⟩=some v:=by
  intro cs
  induction cs with
  | nil=>intro o _;exact⟨[],rfl,by simp⟩
  | cons c r ih=>
   intro o h;obtain⟨_,⟨x,hx,hc⟩,hr⟩:=h;obtain⟨l,hl,hj⟩:=ih hr;refine⟨x::l,⟨x,l,rfl,hc,hl⟩,fun j v hv=>?_⟩
   cases j with
   | zero=>simp at hv;subst hv;exact hx
   | succ j=>
    have:=hj j v (by simpa using hv);rw[Nat.add_assoc,Nat.add_comm 1 j]at this;exact this
 induction es generalizing off with
 | nil=>intro _;exact⟨[],rfl,by simp,by simp⟩
 | cons e r ih=>
  intro h;obtain⟨he,ha,hr⟩:=h;obtain⟨l1,h1,j1⟩:=at_ ha;obtain⟨l2,h2,e2,j2⟩:=ih hr;have e1:=h1.length;refine⟨l1++l2,?_,by simp[e1,e2,he,Nat.succ_mul];omega,fun j v hv=>?_⟩
  ·rw[List.flatten_cons]
   have:=aj.append (yv:=none) (L:=⟨fun _=>0,fun _=>0⟩) (aj.inj.2 h1) (aj.inj.2 h2);rw[<- mK]at this;exact aj.inj.1 this
  ·by_cases hj:j<l1.length
   ·rw[List.getElem?_append_left hj]at hv;exact j1 j v hv
   ·rw[List.getElem?_append_right (by omega)]at hv
    have:=j2 _ v hv;have e:off+sz+(j-l1.length)=off+j:=by omega
    rw[e]at this;exact this
theorem qX{σ':Type}{h:aq}{s:σ'}{cx:Cx σ'}{hp:aq}(hs:cN h hp)(hg:bp cx L F hp s w){v:V}{fs:a7}(hf:qf h v=some fs){y:Value}(hr:aT cx.yv L F w v y){sz:Nat}(hl:∀ e∈fs.bo,e.length=sz)(cY:0<sz) :
  ∃ (ay:Option Addr) (cap:Nat) (news:List Value),y = .slice ay fs.bo.length cap/\fs.bo.length<=cap/\aj cx.yv L F w fs.bo.flatten news/\news.length=fs.bo.length*sz /\
   (fs.bo = [] \/ ∃ b off,ay=some ⟨b,off,none⟩ /\ ∀ (j:Nat) v,news[j]?=some v->w.cell? ⟨b,off+j,none⟩=some v):=by
 unfold qf at hf;split at hf
 ·rename_i es
  cases hf;obtain⟨a0,len,cap,rfl,hlen,kq,nC⟩:=hr;have e1:(a7.dd es).bo.length=es.length:=by simp[a7.bo,cq]
  by_cases ef:es = []
  ·subst ef
   refine⟨a0,cap,[],by rw[hlen];rfl,Nat.zero_le _,rfl,by simp[a7.bo,cU],.inl rfl⟩
  ·obtain⟨b,off,sz',rfl,zn,zW⟩:=nC ef
   have Ct:sz'=sz:=by
    cases es with
    | nil=>exact absurd rfl ef
    | cons x r=>
     have:=hl (inj x) (by simp[a7.bo,cU]);rw[eh]at this;exact zW.1.symm.trans this
   subst Ct;obtain⟨l,h1,h2,h3⟩:=cG.cells zW;refine⟨_,cap,l,by rw[hlen,e1],by rw[e1,<- hlen];exact kq,?_,by rw[h2,e1],.inr ⟨b,off,rfl,h3⟩⟩;show aj _ _ _ _ (cU es).flatten l;rw[eb];exact aj.inj.2 h1
 ·cases hf
  have hr:y = .slice none 0 0:=hr;exact⟨none,0,[],hr,Nat.le_refl _,rfl,by simp[a7.bo,cU],.inl rfl⟩
 ·rename_i id z off n
  split at hf;case h_2=>cases hf
  rename_i m es nC;split at hf;case h_2=>cases hf
  rename_i xE Ci;cases hf;have xE:=da xE;have Ci:=lO Ci;subst xE;rw[a7.iU]at Ci;obtain⟨a0,cap,rfl,kq,XS,hb⟩:=hr;have e1:(es.part off n).bo.length=n:=by rw[a7.ou];simp;omega
  obtain⟨_,gf,jm⟩:=hg.obj id _ (hs _ _ nC);by_cases nZ:n=0
  ·subst nZ
   have e0:(es.part off 0).bo = []:=by rw[a7.ou];simp
   exact⟨a0,cap,[],by rw[e0];rfl,by rw[e0];exact Nat.zero_le _,by rw[e0];rfl,by rw[e0];simp,.inl e0⟩
  ·rcases hb with⟨h0,_⟩|⟨rfl,hb⟩
   ·omega
   have We:m=sz:=by
    have hx:off<es.bo.length:=by omega
    have:=hl es.bo[off] (by rw[a7.ou];exact List.mem_iff_getElem?.2 ⟨0,by rw[List.getElem?_take_of_lt (by omega),List.getElem?_drop];simp[hx]⟩);rw[<- this];exact(gf _ (List.getElem_mem _)).symm
   subst We;rcases jm with⟨he,_⟩|⟨l,E,kQ,hk,Hk,Cs⟩
   ·rw[he]at Ci;simp at Ci;omega
   have xH:(es.part off n).bo.flatten=(es.bo.flatten.drop (off*m)).take (n*m):=by
    rw[a7.ou,fW _ (fun e he=>gf e (List.mem_of_mem_drop he)),mz _ gf]
   have hle:(off+n)*m<=es.bo.length*m:=Nat.mul_le_mul_right _ Ci;rw[Nat.add_mul]at hle;refine⟨_,cap,((l.toList.take (es.bo.length*m)).drop (off*m)).take (n*m),by rw[e1],by rw[e1];exact kq,by rw[xH];exact(Cs.drop _).take _,?_,.inr ⟨_,_,rfl,fun j v hv=>?_⟩⟩
   ·rw[e1];simp;omega
   ·rw[cell_of_row _ _ _ _ _ _ kQ]
    have hj:j<n*m:=by have:=(List.getElem?_eq_some_iff.1 hv).1;simp at this;omega
    rw[List.getElem?_take_of_lt hj,List.getElem?_drop,List.getElem?_take_of_lt (by omega)]at hv;simpa using hv
 ·cases hf
end
section
variable {P : Program} {T : dV}
theorem run_append_room{w:World}(t tx ty e:TypeId){i:TypeInfo}(ht:P.underlying t=some (.slice e))(hi:P.info? e=some i){b off sLen sCap:Nat}{x:Value}{n:Nat}{news:List Value}(hs:Src P i.size tx x n news w)
  (pN:sLen+n<=sCap) {c:Array Value} {E:TypeId} (hb:w.heap[b]?=some (.cells c E (0,0))) (hc:off+sCap*i.size<=c.size) :
  (Builtin.append_ #[t,tx] ty #[.slice (some ⟨b,off,none⟩) sLen sCap,x]).run P w =
   .ok (.slice (some ⟨b,off,none⟩) (sLen+n) sCap) (w.setRow b (c.toList.take (off+sLen*i.size)++news++c.toList.drop (off+sLen*i.size+news.length)).toArray):=by
 have hle:(sLen+n)*i.size<=sCap*i.size:=Nat.mul_le_mul_right _ pN;rw[Nat.add_mul]at hle;have pz:=run_storeCells_at (P:=P) b (off+sLen*i.size) E news 0 c w hb (by rw[hs.newsLen];omega) hs.one;simp only[Nat.add_zero]at pz;rcases hs.kind with⟨e',hk⟩|hk<;>simp[Builtin.append_,run_underlying ht,run_underlying hk,sizeOf,typeInfo,hi,hs.len,pN,hs.cells,dY,pz]
theorem jJ{w:World}(t tx ty e:TypeId){i:TypeInfo}(ht:P.underlying t=some (.slice e))(hi:P.info? e=some i){base:Option Addr}{sLen sCap:Nat}{x:Value}(hs:Src P i.size tx x 0 [] w)
  (pN:sLen<=sCap) :
  (Builtin.append_ #[t,tx] ty #[.slice base sLen sCap,x]).run P w = .ok (.slice base sLen sCap) w:=by
 cases base<;>rcases hs.kind with⟨e',hk⟩|hk<;>simp[Builtin.append_,run_underlying ht,run_underlying hk,sizeOf,typeInfo,hi,hs.len,pN,hs.cells,storeCells]
theorem C6{w:World}{size:Nat}{u el:TypeId}(hu:P.underlying u=some (.slice el)){ay:Option Addr}{n cap:Nat}{news:List Value}(hlen:news.length=n*size)
  (hc:n=0 \/ ∃ b off,ay=some ⟨b,off,none⟩ /\ ∀ (j:Nat) v,news[j]?=some v->w.cell? ⟨b,off+j,none⟩=some v) (h1:∀ v∈news,v.oneCell'=true) :
  Src P size u (.slice ay n cap) n news w:=by
 rcases hc with rfl|⟨b,off,rfl,hj⟩
 ·have hn:news = []:=List.length_eq_zero_iff.1 (by simpa using hlen)
  subst hn
  cases ay with
  | none=>exact Src.ofNil w hu cap
  | some ad=>exact Src.ofSlice w hu ad 0 cap [] (by simp) (by simp) (fun _ h=>by cases h)
 ·exact Src.ofSlice w hu _ n cap news hlen (fun j v hv=>by rw[dY];exact hj j v hv) h1
variable {e : Env} {h : aq} {dst : Option Nat} {K : List Wr -> Prop} {ty : TypeId} {pos : String} {after : Array Edge} {guard : Option (Nat × Bool)}
theorem sX{σ:Type}{cx:Cx σ}{r:Option Nat}{m:List Nat}{L:Loc}{F:Nat->Nat}{st:St σ}{a:Act}{w:World}(hg:Good cx r m L F st a w){d:Nat}(hd:d<a.tmps.size)
  {t tx el:TypeId} {ie:TypeInfo} {z:Value} (hu:P.underlying t=some (.slice el)) (g8:P.info? el=some ie) (hz:ie.zero=some z) (K9:z.cells.size=ie.size) (cY:0<ie.size) (DL:0<ie.bytes)
  {base:Option Addr} {len cap n:Nat} {olds news:List Value} {x:Value} (hold:∀ w':World,(∀ y,w'.cell? y=w.cell? y)->(Builtin.firstCells ie.size len (.slice base len cap)).run P w' = .ok olds.toArray w')
  (DQ:olds.length=len*ie.size) (hs:Src P ie.size tx x n news w) (Jg:cap<len+n) (kp:(len+n)*ie.bytes<=140737488355328)
  {es:a7} (tL:es.bo.length=len+n) (gf:cK ie.size es.bo) (hr:aj cx.yv L F w es.bo.flatten (olds++news)) (hf:¬ bz es.bo.flatten d) :
  ∃ v w' L' F',(Builtin.append_ #[t,tx] ty #[.slice base len cap,x]).run P w = .ok v w'/\Good cx r m L' F' (aF st [.new d (.arr ie.size es),.set d (.sl d ie.size 0 (len+n))]) (a.put (some d) v) w'/\Tr F w F' w':=by
 have nh:=hs.newsLen;have YI:((len+n:Nat):Int)<=9223372036854775807:=by
  have:len+n<=(len+n)*ie.bytes:=Nat.le_mul_of_pos_right _ DL;omega
 have bt:=run_append_grow_src (P:=P) w t tx ty el ie z hu g8 hz base len cap olds (hold w.drew fun _=>rfl) x n news hs Jg YI (growslice_fits Jg kp);generalize hgc:grownCap w (len+n) cap el=nc at bt;have Wf:len+n<=nc:=by rw[<- hgc];exact grownCap_ge _ _ _ _
 generalize hcells:(olds++news).toArray++Builtin.zeroCells z.cells (nc-(len+n))=c' at bt;have hmul:(len+n)*ie.size=len*ie.size+n*ie.size:=Nat.add_mul _ _ _;have Ck:c'.toList.take ((len+n)*ie.size)=olds++news:=by
  rw[<- hcells];have:(olds++news).length=(len+n)*ie.size:=by simp[DQ,nh,hmul]
  rw[<- this];simp only[Array.toList_append];exact List.take_left' rfl
 have qn:c'.size=nc*ie.size:=by
  rw[<- hcells];have h1:nc=(len+n)+(nc-(len+n)):=by omega
  have h2:nc*ie.size=(len+n)*ie.size+(nc-(len+n))*ie.size:=by
   conv=>lhs;rw[h1]
   rw[Nat.add_mul]
  rw[h2];simp[Builtin.zeroCells,DQ,nh,K9,hmul]
 have zg:Good cx r m L F st a w.drew:=hg.same rfl rfl rfl rfl;have Kh:Tr F w F w.drew:=Tr.drew _;have yq:Tr F w.drew F (w.drew.alloc (.cells c' el)):=Tr.alloc zg.heap.fresh _;have hle:(len+n)*ie.size<=nc*ie.size:=Nat.mul_le_mul_right _ Wf;have pL:=zg.new d c'.size (.arr ie.size es) (.cells c' el) (zg.dN hd) ⟨cY,gf,.inr ⟨c',el,(by show(w.drew.alloc _).heap[if d=d then w.drew.heap.size else L.ρ d]?=_;rw[if_pos rfl];exact heap_alloc_new w.drew _),(by simp),(by rw[tL,qn];exact hle),(by
  rw[tL,Ck];exact aj.kC (L:=L) (Tr.trans Kh yq) (fun i hi=>by simp[hi]) hf hr)⟩⟩
 refine⟨_,_,_,F,bt,pL.set (v:=.sl d ie.size 0 (len+n)) hd ⟨_,_,rfl,Wf,cY,.inr ⟨(by simp),(by simp[qn])⟩⟩,Tr.trans Kh yq⟩
theorem dt(s:ByteArray):(bO s).length=s.size:=byteCells_length s
theorem na(a b:ByteArray):bO (a++b)=bO a++bO b:=by
 simp[bO]
theorem LM(hT:bl P T){t el:TypeId}{ei:pF}(h:LL T t=some (el,ei)):P.underlying t=some (.slice el)/\T.get el=some ei/\fH T t=some ei:=by
 unfold LL at h;split at h;case h_2=>cases h
 rename_i ti ht;split at h;case h_2=>cases h
 rename_i e he;split at h;case h_2=>cases h
 rename_i Yn iF;cases h;obtain⟨de,fB,dC⟩:=dy hT ht;rw[he]at dC;have hs:fH T t=some ei:=by simp[fH,ht,he,iF]
 refine⟨?_,iF,hs⟩;have:=eo dC.symm;rw[fB,this]
theorem JD(hT:bl P T){t:TypeId}(h:isStr T t=true):P.underlying t=some .string:=by
 unfold isStr at h;split at h;case h_2=>cases h
 rename_i ti ht;split at h;case h_2=>cases h
 rename_i he;obtain⟨de,fB,dC⟩:=dy hT ht;rw[he]at dC;have:=im dC.symm;subst this;exact fB
theorem Bg(hT:bl P T){u:TypeId}{v:V}{s:ByteArray}(hn:CH T h u v=some s){σ:Type}{cx:Cx σ}{r:Option Nat}{m:List Nat}{L:Loc}{F:Nat->Nat}{st:St σ}{a:Act}{w:World}
  (hh:cN h st.heap) (hg:Good cx r m L F st a w) {x:Value} (hx:aT cx.yv L F w v x):Src P 1 u x s.size (bO s) w:=by
 have MY:∀ {s:ByteArray},(match fH T u with
  | some _=>match qf h v with
   | some (.dd [[.int .u8 c]])=>match decide (0<=c),decide (c<256) with
    | true,true=>some (⟨#[UInt8.ofNat c.toNat]⟩:ByteArray)
    | _,_=>none
   | _=>none
  | none=>none)=some s->Src P 1 u x s.size (bO s) w:=by
  intro s hn;split at hn;case h_2=>cases hn
  rename_i ui NM;obtain⟨Yo,Jx,_⟩:=kc hT NM;split at hn;case h_2=>cases hn
  rename_i c FP;split at hn;case h_2=>cases hn
  rename_i h0 h1;cases hn;have h0:=of_decide_eq_true h0;have h1:=of_decide_eq_true h1;obtain⟨ay,cap,news,JC,kq,IB,nh,u6⟩:=qX hh hg.heap FP hx (sz:=1) (fun e he=>by
   simp only[a7.bo,cU,inj,List.mem_singleton]at he;subst he;rfl) Nat.one_pos
  obtain⟨y,l',rfl,hy,kQ⟩:=IB;have hy:y = .int .u8 c:=hy;have kQ:l' = []:=kQ;subst hy kQ;have he:bO (⟨#[UInt8.ofNat c.toNat]⟩:ByteArray) = [.int .u8 c]:=by
   have:((UInt8.ofNat c.toNat).toNat:Int)=c:=by
    rw[UInt8.toNat_ofNat_of_lt' (by show c.toNat<256;omega)];omega
   show [Value.int .u8 ((UInt8.ofNat c.toNat).toNat:Int)]=_;rw[this]
  rw[he,JC];exact C6 Jx (by simpa using nh) (u6.imp (fun h=>by cases h) fun h=>h) (fun v hv=>by
   rw[List.mem_singleton]at hv;subst hv;rfl)
 unfold CH at hn;split at hn
 ·rename_i s'
  split at hn;case h_2=>cases hn
  rename_i hs;cases hn;have hx:x = .string s:=hx;subst hx;exact Src.ofString w (JD hT hs) s
 ·exact MY hn
theorem JO(hT:bl P T){args:Array Operand}{tys:Array TypeId}{x y:Operand}{t u:TypeId}(bR:args.toList = [x,y])(AX:tys.toList = [t,u])(hk:Lv T e h dst t u x y K) :
  ∃ ws,K ws/\Out P e h ⟨dst,.call ⟨.builtin .append,args,tys⟩,ty,pos,after,guard⟩ ws:=by
 unfold Lv at hk;split at hk;case h_2=>exact hk.elim
 rename_i v yv el ei d hx hy iF;split at hk;case h_2=>exact hk.elim
 rename_i s hs;have jc:=bA hk;clear hk;obtain⟨eg,hk⟩:=jc;simp only[Bool.and_eq_true]at eg;obtain⟨eg,wE,nY⟩:=eg;have wE:=da wE;have nY:=da nY;obtain⟨tf,Jd,_⟩:=LM hT iF;obtain⟨ie,z,g8,hz,cY,DL,ea,qm,K9⟩:=qU hT Jd eg;have G3:ie.size=1:=by omega
 have Jh:ie.bytes=1:=by omega
 have bt:∀ (a:Act) (w:World) (b:Option Addr) (l c:Nat) (v:Value) (w':World),a.eval x = .slice b l c->(Builtin.append_ #[t,u] ty #[.slice b l c,a.eval y]).run P w = .ok v w' ->
   (execOp a.eval ⟨some d,.call ⟨.builtin .append,args,tys⟩,ty,pos,after,guard⟩).run P w = .ok (.value v) w':=fun a w b l c v w' cF hv=>by
  have h1:args.map a.eval = #[.slice b l c,a.eval y]:=by
   apply Array.ext';simp[bR,cF]
  have h2:tys = #[t,u]:=by
   apply Array.ext';simp[AX]
  simp[execOp,resolve,invoke,builtin,h1,h2,hv]
 have grow:∀ {σ:Type} {cx:Cx σ} {r:Option Nat} {m:List Nat} {L:Loc} {F:Nat->Nat} {st:St σ} {a:Act} {w:World},Good cx r m L F st a w->d<a.tmps.size -> ∀ (base:Option Addr) (cap:Nat) (b:ByteArray),
   a.eval x = .slice base b.size cap->(Builtin.firstCells ie.size b.size (.slice base b.size cap)).run P w.drew = .ok (bO b).toArray w.drew->Src P 1 u (a.eval y) s.size (bO s) w->cap<b.size+s.size->b.size+s.size<=140737488355328 ->
   ∃ v w' L' F',(execOp a.eval ⟨some d,.call ⟨.builtin .append,args,tys⟩,ty,pos,after,guard⟩).run P w = .ok (.value v) w'/\Good cx r m L' F' (aF st [.new d (.buf el (b++s)),.set d (.sl d 1 0 (b++s).size)]) (a.put (some d) v) w'/\Tr F w F' w':=by
  intro σ cx r m L F st a w hg hd base cap b cF hold qp Jg kp;have hr:=run_append_grow_src (P:=P) w t u ty el ie z tf g8 hz base b.size cap (bO b) hold (a.eval y) s.size (bO s) (by rw[G3];exact qp) Jg (by omega) (growslice_fits Jg (by rw[Jh];omega));generalize hgc:grownCap w (b.size+s.size) cap el=nc at hr;have Wf:b.size+s.size<=nc:=by rw[<- hgc];exact grownCap_ge _ _ _ _
  generalize hcells:(bO b++bO s).toArray++Builtin.zeroCells z.cells (nc-(b.size+s.size))=c' at hr;have KR:(b++s).size=b.size+s.size:=by simp
  have hlen:(bO b++bO s).length=b.size+s.size:=by rw[List.length_append,dt,dt]
  have Ck:c'.toList.take (b++s).size=bO (b++s):=by
   rw[<- hcells,KR,na,<- hlen];simp only[Array.toList_append];exact List.take_left' rfl
  have qn:c'.size=nc:=by
   rw[<- hcells];have:z.cells.size=1:=by omega
   simp only[Array.size_append,List.size_toArray,hlen,size_zeroCells,this];omega
  have zg:Good cx r m L F st a w.drew:=hg.same rfl rfl rfl rfl;have Kh:Tr F w F w.drew:=Tr.drew _;have yq:Tr F w.drew F (w.drew.alloc (.cells c' el)):=Tr.alloc zg.heap.fresh _;have pL:=zg.new d c'.size (.buf el (b++s)) (.cells c' el) (zg.dN hd) ⟨c',(by show(w.drew.alloc _).heap[if d=d then w.drew.heap.size else L.ρ d]?=_;rw[if_pos rfl];exact heap_alloc_new w.drew _),(by simp),(by omega),Ck⟩;refine⟨_,_,_,F,bt a w base _ cap _ _ cF hr,pL.set (v:=.sl d 1 0 (b++s).size) hd ⟨some ⟨w.drew.heap.size,0,none⟩,nc,(by rw[KR];rfl),(by omega),Nat.one_pos,.inr ⟨(by simp),(by simp[qn])⟩⟩,Tr.trans Kh yq⟩
 split at hk
 ·have jc:=bA hk
  clear hk;obtain⟨hc,hk⟩:=jc;simp only[Bool.and_eq_true]at hc;have h0:=of_decide_eq_true hc.1;have kp:=of_decide_eq_true hc.2;refine⟨_,hk,?_⟩;intro σ cx r m L F st a w he hh hg hd;have cF:a.eval x = .slice none 0 0:=hg.aH (ax he hx);obtain⟨v,w',L',F',h1,h2,h3⟩:=grow hg (hd d rfl) none 0 ByteArray.empty cF (by
   have:bO ByteArray.empty = []:=rfl;rw[this];exact run_firstCells_none _ _ 0 0 0) (Bg hT hs hh hg (hg.aH (ax he hy))) (by simp;omega) (by simp;omega)
  have e0:ByteArray.empty++s=s:=by simp
  rw[e0]at h2;exact⟨v,w',_,h1,.inl rfl,L',F',h2,h3⟩
 ·rename_i id n off len
  split at hk;case h_2=>exact hk.elim
  rename_i tb b hb;obtain⟨hc,dC⟩:=bA hk;clear hk;simp only[Bool.and_eq_true]at hc;obtain⟨Ci,hk⟩:=bA dC;clear dC;simp only[Bool.and_eq_true]at Ci;have sq:=da hc.1;have nq:=da hc.2.1;have tO:=da hc.2.2;have hlen:=of_decide_eq_true Ci.1;have AT:=of_decide_eq_true Ci.2.1;have kp:=of_decide_eq_true Ci.2.2;subst sq nq hlen tO;refine⟨_,hk,?_⟩;intro σ cx r m L F st a w he hh hg hd;obtain⟨base,cap,cF,SA,_,Sq⟩:=hg.aH (ax he hx);rcases Sq with⟨XS,_⟩|⟨rfl,Sq⟩
  ·omega
  rw[Nat.zero_add,Nat.mul_one]at Sq;rw[Nat.zero_mul]at cF;have h0:=hh _ _ hb;obtain⟨c,xE,mE,Cj,Xu⟩:=hg.heap.obj id _ h0;have qp:=Bg hT hs hh hg (hg.aH (ax he hy));have KR:(b++s).size=b.size+s.size:=by simp
  have Y4:∀ w':World,(∀ x,w'.cell? x=w.cell? x)->(Builtin.firstCells ie.size b.size (.slice (some ⟨L.ρ id,0,none⟩) b.size cap)).run P w' = .ok (bO b).toArray w':=fun w' WK=>by
   rw[G3];refine run_firstCells_some w' 1 b.size _ b.size cap _ (by rw[dt];omega) fun j v hv=>?_;have hj:j<b.size:=by have:=(List.getElem?_eq_some_iff.1 hv).1;rwa [dt]at this
   rw[dY,WK,cell_of_row _ _ _ _ _ _ xE,Nat.zero_add,<- Array.getElem?_toList,<- hv,<- Xu,List.getElem?_take_of_lt hj]
  by_cases pN:b.size+s.size<=cap
  ·have hr:=run_append_room (P:=P) (ty:=ty) t u tb tf g8 (by rw[G3];exact qp) pN (b:=L.ρ id) (off:=0) xE (by rw[G3];omega)
   simp only[G3,Nat.mul_one,Nat.zero_add]at hr;have hL:=Array.length_toList (xs:=c);have Jv:=fT (cs:=c.toList) (l:=bO s) (off:=b.size) (by rw[dt];omega);generalize sj:(c.toList.take b.size++bO s++c.toList.drop (b.size+(bO s).length)).toArray=c' at hr;have ce:c'.toList=c.toList.take b.size++bO s++c.toList.drop (b.size+(bO s).length):=by rw[<- sj]
   have wK:c'.size=c.size:=by rw[<- ce]at Jv;simpa using Jv
   obtain⟨g1,g2⟩:=hg.H2 (d:=d) (o:=.buf tb (b++s)) (hg.dN (hd d rfl)) h0 trivial (w':=w.setRow (L.ρ id) c') rfl rfl rfl (size_setRow _ _ _) (fun b hb=>setRow_other _ _ _ _ hb)
    (by rw[xE];intro ds e;cases e) (by rw[xE];intro lp e;cases e)
    ⟨c',(by show(w.setRow _ c').heap[if d=d then L.ρ id else L.ρ d]?=_;rw[if_pos rfl];exact setRow_heap _ _ _ _ _ _ xE),(by rw[wK];simpa using mE),(by omega),(by
     rw[ce,Xu,na,KR];have e1:b.size+s.size=(bO b++bO s).length:=by rw[List.length_append,dt,dt]
     rw[e1,List.take_left'];rfl)⟩
   exact⟨_,_,_,bt a w _ b.size cap _ _ cF hr,.inl rfl,_,F,g1.set (v:=.sl d 1 0 (b++s).size) (hd d rfl) ⟨_,_,(by rw[KR]),(by omega),Nat.one_pos,.inr ⟨(by simp),(by simp;exact Sq)⟩⟩,g2⟩
  ·obtain⟨v,w',L',F',h1,h2,h3⟩:=grow (hg.del id) (hd d rfl) _ cap b cF (Y4 w.drew fun _=>rfl) qp (by omega) kp
   exact⟨v,w',_,h1,.inl rfl,L',F',h2,h3⟩
 ·exact hk.elim
theorem CP(hT:bl P T){args:Array Operand}{tys:Array TypeId}(hk:dZ T e h dst .append args tys K):∃ ws,K ws/\Out P e h ⟨dst,.call ⟨.builtin .append,args,tys⟩,ty,pos,after,guard⟩ ws:=by
 simp only[dZ]at hk;split at hk;case h_2=>exact hk.elim
 rename_i x y t u bR AX;split at hk
 ·exact JO hT bR AX hk
 split at hk;case h_2=>exact hk.elim
 rename_i ui NM;replace hk:=Eo hk;unfold uG at hk;split at hk;case h_2=>exact hk.elim
 rename_i v uv ei d hx hy iF;split at hk;case h_2=>exact hk.elim
 rename_i fs FP;obtain⟨eg,hk⟩:=bA hk;obtain⟨el,tf,Jd⟩:=kc hT iF;obtain⟨Yo,Jx,_⟩:=kc hT NM;obtain⟨ie,z,g8,hz,cY,DL,ea,qm,K9⟩:=qU hT Jd eg;have bt:∀ (a:Act) (w:World) (b:Option Addr) (l c:Nat) (v:Value) (w':World),a.eval x = .slice b l c->(Builtin.append_ #[t,u] ty #[.slice b l c,a.eval y]).run P w = .ok v w' ->
   (execOp a.eval ⟨some d,.call ⟨.builtin .append,args,tys⟩,ty,pos,after,guard⟩).run P w = .ok (.value v) w':=fun a w b l c v w' cF hv=>by
  have h1:args.map a.eval = #[.slice b l c,a.eval y]:=by
   apply Array.ext';simp[bR,cF]
  have h2:tys = #[t,u]:=by
   apply Array.ext';simp[AX]
  simp[execOp,resolve,invoke,builtin,h1,h2,hv]
 unfold uw at hk;split at hk
 ·obtain⟨hc,hk⟩:=bA hk
  simp only[Bool.and_eq_true]at hc;obtain⟨Mu,gQ⟩:=hc;obtain⟨kp,hk⟩:=bA hk;have kp:=of_decide_eq_true kp;refine⟨_,hk,?_⟩;intro σ cx r m L F st a w he hh hg hd;have cF:a.eval x = .slice none 0 0:=hg.aH (ax he hx);have uf:=yV Mu;obtain⟨ay,cap,news,JC,kq,IB,nh,u6⟩:=qX hh hg.heap FP (hg.aH (ax he hy)) (fun e he=>(uf e he).1) cY;have h1:=IB.one (fy fun e he=>(uf e he).2);have qp:Src P ie.size u (a.eval y) fs.bo.length news w:=by
   rw[JC,<- ea];exact C6 Jx nh (u6.imp (fun h=>by rw[h];rfl) fun h=>h) h1
  have Ch:((a7.dd []).app fs).bo=fs.bo:=by rw[a7.yJ];rfl
  have BW:(a7.dd []).len+fs.len=fs.bo.length:=by rw[a7.iU,a7.iU];simp[a7.bo,cU]
  rw[BW]at kp;rw[BW,ea];by_cases h0:fs.bo = []
  ·have nZ:fs.bo.length=0:=by rw[h0];rfl
   have ES:news = []:=List.length_eq_zero_iff.1 (by rw[nh,nZ];simp);rw[nZ,ES]at qp;have hr:=jJ (P:=P) t u ty el tf g8 (base:=none) (sLen:=0) (sCap:=0) qp (Nat.le_refl _);have pL:=hg.kB d ie.size (hg.dN (hd d rfl)) (by rw[<- ea];exact cY) ((a7.dd []).app fs) (by rw[Ch,h0]);exact⟨_,_,_,bt a w none 0 0 _ _ cF hr,.inl rfl,_,F,pL.set (v:=.sl d ie.size 0 fs.bo.length) (hd d rfl) ⟨none,0,(by rw[nZ]),(by rw[nZ];exact Nat.le_refl _),(by rw[<- ea];exact cY),.inl ⟨nZ,rfl⟩⟩,Tr.refl F w⟩
  ·have AT:0<fs.bo.length:=Nat.pos_of_ne_zero fun e=>h0 (List.length_eq_zero_iff.1 e)
   have:=sX (P:=P) (ty:=ty) (tx:=u) (x:=a.eval y) hg (hd d rfl) tf g8 hz K9 (by omega) (by omega) (base:=none) (len:=0) (cap:=0) (n:=fs.bo.length) (olds:=[]) (news:=news) (fun w' _=>run_firstCells_none w' ie.size 0 0 0) (by simp) qp (by omega) (by rw[Nat.zero_add,<- qm];exact kp)
    (es:=(a7.dd []).app fs) (by rw[Ch];simp) (by rw[Ch,<- ea];exact fun e he=>(uf e he).1) (by rw[Ch];exact IB) (nP gQ)
   obtain⟨v,w',L',F',hv,pL,tr⟩:=this;rw[Nat.zero_add]at pL;exact⟨v,w',_,bt a w none 0 0 v w' cF hv,.inl rfl,L',F',pL,tr⟩
 ·rename_i id n off len _
  split at hk;case h_2=>exact hk.elim
  rename_i mm xq Q9;obtain⟨hc,dC⟩:=bA hk;clear hk;simp only[Bool.and_eq_true]at hc;obtain⟨⟨⟨sq,BX⟩,hle⟩,nq⟩:=hc;have sq:=da sq;have BX:=da BX;have hle:=lO hle;have nq:=da nq;rw[a7.iU]at hle;obtain⟨hc,iQ⟩:=bA dC;clear dC;simp only[Bool.and_eq_true]at hc;obtain⟨Mu,gQ⟩:=hc;obtain⟨kp,hk⟩:=bA iQ;have kp:=of_decide_eq_true kp;refine⟨_,hk,?_⟩;intro σ cx r m L F st a w he hh hg hd;subst sq nq;rw[BX]at Q9;clear BX;obtain⟨base,cap,cF,SA,_,hb⟩:=hg.aH (ax he hx);have uf:=yV Mu;have h0:=hh _ _ Q9;obtain⟨_,gf,jm⟩:=hg.heap.obj id _ h0;obtain⟨ay,N5,news,JC,Q1,IB,nh,u6⟩:=qX hh hg.heap FP (hg.aH (ax he hy)) (fun e he=>(uf e he).1) cY;have h1:=IB.one (fy fun e he=>(uf e he).2);have qp:Src P ie.size u (a.eval y) fs.bo.length news w:=by
   rw[JC,<- ea];exact C6 Jx nh (u6.imp (fun h=>by rw[h];rfl) fun h=>h) h1
  have nr:(xq.part 0 len).bo=xq.bo.take len:=by rw[a7.ou];rfl
  have Ry:(xq.part 0 len).bo.length=len:=by rw[nr];simp;omega
  have Ch:((xq.part 0 len).app fs).bo=xq.bo.take len++fs.bo:=by rw[a7.yJ,nr]
  have BW:(xq.part 0 len).len+fs.len=len+fs.bo.length:=by rw[a7.iU,a7.iU,Ry]
  have AI:((xq.part 0 len).app fs).bo.length=len+fs.bo.length:=by rw[a7.yJ,List.length_append,Ry]
  have ML:cK ei.size (xq.bo.take len):=fun e he=>gf e (List.mem_of_mem_take he);have AJ:cK ei.size ((xq.part 0 len).app fs).bo:=by
   rw[Ch];intro e he;rcases List.mem_append.1 he with he|he
   ·exact ML e he
   ·exact(uf e he).1
  rw[BW]at kp;rw[BW];have hold:∃ olds,(∀ w':World,(∀ x,w'.cell? x=w.cell? x)->(Builtin.firstCells ie.size len (.slice base len cap)).run P w' = .ok olds.toArray w')/\aj cx.yv L F w (xq.bo.take len).flatten olds/\olds.length=len*ie.size:=by
   rw[<- ea];by_cases BW:len=0
   ·subst BW
    refine⟨[],fun w' _=>?_,by simp[aj],by simp⟩
    cases base with
    | none=>exact run_firstCells_none w' _ 0 0 cap
    | some ad=>exact run_firstCells_some w' _ 0 ad 0 cap [] (by simp) (by simp)
   ·rcases hb with⟨h0,_⟩|⟨rfl,hb⟩
    ·omega
    rcases jm with⟨he,_⟩|⟨l,E,kQ,jc,Hk,Cs⟩
    ·rw[he]at hle;simp at hle;omega
    have V9:len*ei.size<=xq.bo.length*ei.size:=Nat.mul_le_mul_right _ hle;refine⟨(l.toList.take (xq.bo.length*ei.size)).take (len*ei.size),fun w' WK=>run_firstCells_some w' _ len _ len cap _ (by simp;omega) fun j v hv=>?_,by rw[fW _ gf];exact Cs.take _,by simp;omega⟩;rw[dY,WK,cell_of_row _ _ _ _ _ _ kQ];have hj:j<len*ei.size:=by have:=(List.getElem?_eq_some_iff.1 hv).1;simp at this;omega
    rw[List.getElem?_take_of_lt hj,List.getElem?_take_of_lt (by omega)]at hv;simpa using hv
  obtain⟨olds,hold,Ru,DQ⟩:=hold;have KQ:aj cx.yv L F w ((xq.part 0 len).app fs).bo.flatten (olds++news):=by
   rw[Ch,List.flatten_append];exact Ru.append IB
  have GY:=hg.del id;by_cases pN:len+fs.bo.length<=cap
  ·rcases hb with⟨nY,wJ⟩|⟨rfl,hb⟩
   ·
    have nZ:fs.bo.length=0:=by omega
    have ES:news = []:=List.length_eq_zero_iff.1 (by rw[nh,nZ];simp);rw[nZ,ES]at qp;have hr:=jJ (P:=P) t u ty el tf g8 (base:=base) (sLen:=len) (sCap:=cap) qp SA;have EI:((xq.part 0 len).app fs).bo = []:=List.length_eq_zero_iff.1 (by rw[AI];omega);have pL:=GY.kB d ei.size (GY.dN (hd d rfl)) cY ((xq.part 0 len).app fs) EI;exact⟨_,_,_,bt a w base len cap _ _ cF hr,.inl rfl,_,F,pL.set (v:=.sl d ei.size 0 (len+fs.bo.length)) (hd d rfl) ⟨base,cap,(by rw[nZ];rfl),(by omega),cY,.inl ⟨(by omega),wJ⟩⟩,Tr.refl F w⟩
   ·by_cases Q0:cap=0
    ·
     have nZ:fs.bo.length=0:=by omega
     have ES:news = []:=List.length_eq_zero_iff.1 (by rw[nh,nZ];simp);rw[nZ,ES]at qp;have hr:=jJ (P:=P) t u ty el tf g8 (base:=some ⟨L.ρ id,0*ei.size,none⟩) (sLen:=len) (sCap:=cap) qp SA;have EI:((xq.part 0 len).app fs).bo = []:=List.length_eq_zero_iff.1 (by rw[AI];omega);have pL:=GY.kB d ei.size (GY.dN (hd d rfl)) cY ((xq.part 0 len).app fs) EI;exact⟨_,_,_,bt a w _ len cap _ _ cF hr,.inl rfl,_,F,pL.set (v:=.sl d ei.size 0 (len+fs.bo.length)) (hd d rfl) ⟨_,cap,(by rw[nZ];rfl),(by omega),cY,.inl ⟨(by omega),Q0⟩⟩,Tr.refl F w⟩
    ·
     rw[Nat.zero_add]at hb;have hκ:L.κ id≠0:=by
      have:0<cap*ei.size:=Nat.mul_pos (by omega) cY;omega
     rcases jm with⟨_,EM⟩|⟨l,E,kQ,jc,Hk,Cs⟩
     ·exact absurd EM hκ
     have hr:=run_append_room (P:=P) (ty:=ty) t u el tf g8 qp pN (b:=L.ρ id) (off:=0*ei.size) kQ (by rw[jc,<- ea];simpa using hb);simp only[Nat.zero_mul,Nat.zero_add]at hr cF;have MT:(len+fs.bo.length)*ei.size<=cap*ei.size:=Nat.mul_le_mul_right _ pN;rw[Nat.add_mul]at MT;have Wg:news.length=fs.bo.length*ei.size:=nh;have Zl:len*ie.size=len*ei.size:=by rw[ea]
     have hL:=Array.length_toList (xs:=l);have Jv:=fT (cs:=l.toList) (l:=news) (off:=len*ie.size) (by omega);generalize sj:(l.toList.take (len*ie.size)++news++l.toList.drop (len*ie.size+news.length)).toArray=c' at hr;have ce:c'.toList=l.toList.take (len*ie.size)++news++l.toList.drop (len*ie.size+news.length):=by rw[<- sj]
     have wK:c'.size=l.size:=by rw[<- ce]at Jv;simpa using Jv
     have tr:Tr F w F (w.setRow (L.ρ id) c'):=
      .gz rfl rfl rfl (by simp) (fun _=>Nat.le_refl _) hg.heap.fresh fun b _ hF=>setRow_other _ _ _ _ (by rintro rfl;have:=(hg.heap.own id _ h0 hκ).1;omega)
     have Zu:olds=l.toList.take (len*ie.size):=by
      have h2:=hold w (fun _=>rfl);have V9:len*ei.size<=xq.bo.length*ei.size:=Nat.mul_le_mul_right _ hle;have h3:=run_firstCells_some (P:=P) w ie.size len ⟨L.ρ id,0*ei.size,none⟩ len cap (l.toList.take (len*ie.size)) (by rw[List.length_take,Array.length_toList,<- ea];omega) (fun j v hv=>by
       rw[dY,cell_of_row _ _ _ _ _ _ kQ];have hj:j<len*ie.size:=by have:=(List.getElem?_eq_some_iff.1 hv).1;rw[List.length_take]at this;omega
       rw[List.getElem?_take_of_lt hj]at hv;simpa using hv)
      rw[h3]at h2;simp only[Result.ok.injEq,and_true]at h2;have:=congrArg Array.toList h2;simpa using this.symm
     obtain⟨g1,g2⟩:=hg.H2 (d:=d) (o:=.arr ei.size ((xq.part 0 len).app fs)) (hg.dN (hd d rfl)) h0 hκ (w':=w.setRow (L.ρ id) c') rfl rfl rfl (size_setRow _ _ _) (fun b hb=>setRow_other _ _ _ _ hb)
      (by rw[kQ];intro ds e;cases e) (by rw[kQ];intro lp e;cases e)
      ⟨cY,AJ,.inr ⟨c',E,(by show(w.setRow _ c').heap[if d=d then L.ρ id else L.ρ d]?=_;rw[if_pos rfl];exact setRow_heap _ _ _ _ _ _ kQ),(by rw[wK,jc];simp),(by rw[AI,wK,jc,Nat.add_mul];omega),(by
       rw[AI,ce];have e1:(len+fs.bo.length)*ei.size=(l.toList.take (len*ie.size)++news).length:=by
        rw[List.length_append,List.length_take,Wg,Nat.add_mul];omega
       rw[e1,List.take_left',<- Zu]
       ·exact aj.kC (L:=L) tr (fun i hi=>by simp[hi]) (nP gQ) KQ
       ·rfl)⟩⟩
     exact⟨_,_,_,bt a w _ len cap _ _ cF hr,.inl rfl,_,F,g1.set (v:=.sl d ei.size 0 (len+fs.bo.length)) (hd d rfl) ⟨_,_,rfl,pN,cY,.inr ⟨(by simp),(by simp;exact hb)⟩⟩,g2⟩
  ·have:=sX (P:=P) (ty:=ty) (tx:=u) (x:=a.eval y) GY (hd d rfl) tf g8 hz K9 (by omega) (by omega) (base:=base) (len:=len) (cap:=cap) (n:=fs.bo.length) (olds:=olds) (news:=news) hold DQ qp (by omega) (by rw[<- qm];exact kp)
    (es:=(xq.part 0 len).app fs) AI (by rw[<- ea];exact AJ) KQ (nP gQ)
   obtain⟨v,w',L',F',hv,pL,tr⟩:=this;rw[<- ea]at pL;exact⟨v,w',_,bt a w base len cap v w' cF hv,.inl rfl,L',F',pL,tr⟩
 ·exact hk.elim
end
theorem pa:∀ {xs ys:List D} {r:Bool},cv xs ys=some r->xs.length=ys.length
 | [],[],_,_=>rfl
 | [],_::_,_,h=>by simp[cv]at h
 | _::_,[],_,h=>by simp[cv]at h
 | a::xs,b::ys,r,h=>by
  simp only[cv]at h;split at h
  ·rename_i hq;simp[pa hq]
  ·cases h
theorem oB:∀ {xs ys:List D} {r:Bool} (n:Nat),cv xs ys=some r -> ∃ p q,cv (xs.take n) (ys.take n)=some p/\cv (xs.drop n) (ys.drop n)=some q/\r=(p&&q)
 | xs,ys,r,0,h=>⟨true,r,by simp[cv],h,by simp⟩
 | [],[],r,n+1,h=>⟨true,r,by simp[cv],h,by simp⟩
 | [],_::_,_,_+1,h=>by simp[cv]at h
 | _::_,[],_,_+1,h=>by simp[cv]at h
 | a::xs,b::ys,r,n+1,h=>by
  simp only[cv]at h;split at h;case h_2=>cases h
  rename_i p q hp hq;cases h;obtain⟨p',q',h1,h2,rfl⟩:=oB n hq;exact⟨p&&p',q',by simp[cv,hp,h1],by simpa using h2,by rw[Bool.and_assoc]⟩
theorem C2{a b:D}(h:tE a b=some true):a=b:=by
 unfold tE at h;split at h
 ·split at h
  ·rename_i he
   rw[of_decide_eq_true he,of_decide_eq_true (Option.some.inj h)]
  ·cases h
 ·cases h
theorem C1{a b:D}(h:nm a b=some true):a=b:=by
 unfold nm at h;split at h
 ·split at h
  ·rename_i he
   rw[of_decide_eq_true he,of_decide_eq_true (Option.some.inj h)]
  ·cases h
 ·rename_i a b
  cases a<;>cases b<;>simp_all
 ·split at h
  ·rename_i ht
   rw[Nat.eq_of_beq_eq_true ht,C2 h]
  ·cases h
  ·cases h
 ·cases h
theorem v5:∀ {xs ys:List D},cv xs ys=some true->xs=ys
 | [],[],_=>rfl
 | [],_::_,h=>by simp[cv]at h
 | _::_,[],h=>by simp[cv]at h
 | a::xs,b::ys,h=>by
  simp only[cv]at h;split at h;case h_2=>cases h
  rename_i p q hp hq;simp only[Option.some.injEq,Bool.and_eq_true]at h;obtain⟨rfl,rfl⟩:=h;rw[v5 hq]
  congr 1
  exact C1 hp
section
variable {P : Program} {T : dV} {F : Nat -> Nat} {w : World}
theorem sI{xs ys:List D}{r:Bool}(hl:xs.length=1)(h:cv xs ys=some r):∃ a b,xs = [a]/\ys = [b]/\nm a b=some r:=by
 have Jl:=pa h;obtain⟨a,rfl⟩:=List.length_eq_one_iff.1 hl;obtain⟨b,rfl⟩:=List.length_eq_one_iff.1 (by rw[<- Jl];rfl);refine⟨a,b,rfl,rfl,?_⟩;simp only[cv]at h;split at h
 ·rename_i hp hq
  cases hq;simpa[hp]using h
 ·cases h
theorem yi{k:IntKind}{a:Int}{b:D}{r:Bool}(h:tE (.int k a) b=some r):∃ c,b = .int k c/\r=decide (a=c):=by
 unfold tE at h;split at h
 ·rename_i k1 a1 k2 b1 e
  cases e;split at h
  ·rename_i he
   have:=of_decide_eq_true he;subst this;exact⟨_,rfl,(Option.some.inj h).symm⟩
  ·cases h
 ·cases h
theorem Hu{N:Nat}{t:TypeId}{k0 k:IntKind}(fB:P.underlying t=some (.int k0)){a c:Int}:(Op.equalIn (N+1) t (.int k a) (.int k c)).run P w = .ok (decide (a=c)) w:=
 (run_equalIn_int w N t _ _ _ _ fB).trans (by simp;rfl)
theorem kj{N:Nat}{t:TypeId}{dk:TypeDesc}(fB:P.underlying t=some dk)(ze:(∃ k,dk = .int k)\/dk = .bool){x:Value}(em:Bool):(Instr.checkKey em (N+1) t x).run P w = .ok () w:=by
 unfold Instr.checkKey;rcases ze with⟨k,rfl⟩|rfl<;>simp[run_underlying fB]
def yA(P:Program)(T:dV)(F:Nat->Nat)(w:World)(N d:Nat)(t:TypeId)(n:Nat):Prop:=
 (∃ ti,T.get t=some ti/\ti.size=n) /\ ∀ (xs ys:List D) (r:Bool),xs.length=n->pq T d t xs=true->cv xs ys=some r -> ∀ x y,nH T F w t xs x->nH T F w t ys y ->
  (Op.equalIn N t x y).run P w = .ok r w /\ ∀ em,(Instr.checkKey em N t x).run P w = .ok () w
theorem gB{α:Type}(xs:List α){n c m:Nat}(h:n+c<=m) :
  (((xs.drop n).take (m-n)).take c=(xs.drop n).take c)/\(((xs.drop n).take (m-n)).drop c=(xs.drop (n+c)).take (m-(n+c))):=by
 constructor
 ·rw[List.take_take,Nat.min_eq_left (by omega)]
 ·rw[List.drop_take,List.drop_drop]
  congr 1
  omega
theorem qZ (hT : bl P T) {N d : Nat} {f : TypeId -> Option Nat} (hf : ∀ t c, f t = some c -> yA P T F w N d t c) : ∀ (fs : List Field), (∀ f ∈ fs, (f.name == "_") = false) -> ∀ (n m : Nat), nR f (fs.map fun f => (f.offset, f.type)) n = some m ->
  n<=m /\ ∀ (xs ys:List D) (r:Bool) (lx ly:Array Value),aS F w xs lx.toList->aS F w ys ly.toList->xw T (fun t xs=>pq T d t xs) (fs.map fun f=>(f.offset,f.type)) xs=true->m<=xs.length->m<=ys.length->cv ((xs.drop n).take (m-n)) ((ys.drop n).take (m-n))=some r ->
   (Op.eqFields N lx ly fs).run P w = .ok r w /\
   ∀ em, (forIn (m := Sem) fs PUnit.unit fun f _ => (if f.name ≠ "_" then do
     Instr.checkKey em N f.type (<- part f.type lx f.offset)
     pure (ForInStep.yield PUnit.unit)
    else pure (ForInStep.yield PUnit.unit))).run P w = .ok PUnit.unit w
 | [],_,n,m,h=>by
  simp only[List.map_nil,nR,Option.some.injEq]at h;subst h;refine⟨Nat.le_refl _,fun xs ys r lx ly _ _ _ _ _ h=>?_⟩;simp[cv]at h;subst h;simp[Op.eqFields]
 | g::fs,vd,n,m,h=>by
  simp only[List.map_cons,nR]at h;split at h;case h_2=>cases h
  rename_i c nq hc;have nq:=da nq;obtain⟨⟨ti,fk,cY⟩,eg⟩:=hf _ _ hc;obtain⟨hle,Hg⟩:=qZ hT hf fs (fun g hg=>vd g (List.mem_cons_of_mem _ hg)) _ _ h;refine⟨by omega,fun xs ys r lx ly qE sn DP JB ZU hs=>?_⟩;simp only[List.map_cons,xw,fk]at DP;split at DP;case h_2=>cases DP
  rename_i dC;obtain⟨p,q,hp,hq,rfl⟩:=oB (c+1) hs;rw[(gB xs hle).1,(gB ys hle).1]at hp;rw[(gB xs hle).2,(gB ys hle).2]at hq;have Jw:ti.size=c+1:=cY;obtain⟨x,hx,Jy⟩:=js (F:=F) (w:=w) hT fk qE (off:=g.offset) (by omega) (by omega);obtain⟨y,hy,Jz⟩:=js (F:=F) (w:=w) hT fk sn (off:=g.offset) (by omega) (by omega);rw[Jw,nq]at Jy Jz;rw[Jw,nq]at dC;obtain⟨h1,h2⟩:=eg _ _ p (by simp;omega) dC hp x y Jy Jz;obtain⟨h3,h4⟩:=Hg xs ys q lx ly qE sn DP JB ZU hq
  have SD : g.name ≠ "_" := by
   have:=vd g (List.mem_cons_self ..);simpa using this
  refine⟨?_,fun em=>?_⟩
  ·simp only[Op.eqFields,SD,ne_eq,not_false_eq_true,if_true,Sem.run_bind,hx,hy,Result.andThen_ok,h1]
   cases p
   ·simp
   ·simp[h3]
  ·simp only[List.forIn_cons,Sem.run_bind,SD,ne_eq,not_false_eq_true,if_true,Result.andThen_ok,hx,h2 em,Sem.run_pure]
   exact h4 em
theorem q8(hT:bl P T){N d:Nat}{e:TypeId}{c:Nat}(he:yA P T F w N d e (c+1)):∀ (n i:Nat) (xs ys:List D) (r:Bool) (lx ly:Array Value),aS F w xs lx.toList->aS F w ys ly.toList->xx (fun xs=>pq T d e xs) (c+1) n (xs.drop (i*(c+1)))=true->xs.length=(i+n)*(c+1)->ys.length=(i+n)*(c+1) ->
  cv (xs.drop (i*(c+1))) (ys.drop (i*(c+1)))=some r ->
   (Op.eqItems N e (c+1) lx ly (List.range' i n)).run P w = .ok r w /\
   ∀ em,(forIn (m:=Sem) (List.range' i n) PUnit.unit fun j _=>(do
    Instr.checkKey em N e (<- part e lx (j*(<- sizeOf e)))
    pure (ForInStep.yield PUnit.unit))).run P w = .ok PUnit.unit w
 | 0,i,xs,ys,r,lx,ly,qE,sn,_,BY,Hq,hs=>by
  have e1:xs.drop (i*(c+1)) = []:=List.drop_eq_nil_of_le (by rw[BY];simp);have e2:ys.drop (i*(c+1)) = []:=List.drop_eq_nil_of_le (by rw[Hq];simp);rw[e1,e2]at hs;simp only[cv,Option.some.injEq]at hs;subst hs;simp[Op.eqItems]
 | n+1,i,xs,ys,r,lx,ly,qE,sn,DP,BY,Hq,hs=>by
  simp only[xx]at DP;split at DP;case h_2=>cases DP
  rename_i dC;obtain⟨⟨ti,fk,cY⟩,eg⟩:=he;have e1:(i+1)*(c+1)=i*(c+1)+(c+1):=Nat.succ_mul _ _;have e2:(i+(n+1))*(c+1)=i*(c+1)+n*(c+1)+(c+1):=by rw[Nat.add_mul,Nat.succ_mul];omega
  have e3:(i+1+n)=i+(n+1):=by omega
  obtain⟨p,q,hp,hq,rfl⟩:=oB (c+1) hs;obtain⟨x,hx,Jy⟩:=js (F:=F) (w:=w) hT fk qE (off:=i*(c+1)) (by omega) (by omega);obtain⟨y,hy,Jz⟩:=js (F:=F) (w:=w) hT fk sn (off:=i*(c+1)) (by omega) (by omega);rw[cY]at Jy Jz;obtain⟨h1,h2⟩:=eg _ _ p (by simp;omega) dC hp x y Jy Jz;rw[List.drop_drop,List.drop_drop,<- e1]at hq;rw[List.drop_drop,<- e1]at DP;obtain⟨h3,h4⟩:=q8 hT ⟨⟨ti,fk,cY⟩,eg⟩ n (i+1) xs ys q lx ly qE sn DP (by rw[e3];exact BY) (by rw[e3];exact Hq) hq;have ea:(sizeOf e).run P w = .ok (c+1) w:=by rw[<- cY];exact dA hT fk
  refine⟨?_,fun em=>?_⟩
  ·simp only[List.range'_succ,Op.eqItems,Sem.run_bind,hx,hy,Result.andThen_ok,h1]
   cases p
   ·simp
   ·simp[h3]
  ·simp only[List.range'_succ,List.forIn_cons,Sem.run_bind,ea,Result.andThen_ok,hx,h2 em,Sem.run_pure]
   exact h4 em
theorem qh(hT:bl P T):∀ (d:Nat) (t:TypeId) (n:Nat),flat T d t=some n -> ∀ N,d<=N->yA P T F w N d t n
 | 0,_,_,h,_,_=>by simp[flat]at h
 | d+1,t,n,h,0,hN=>by omega
 | d+1,t,n,h,N+1,hN=>by
  simp only[flat]at h;split at h
  ·cases h
  rename_i ti fk;obtain⟨i,de,hi,fB,_,_,dw,nB,Re,_⟩:=hT t ti fk;split at h
  ·rename_i k hk
   have e:=lX (dw▸hk);subst e;split at h;case h_2=>cases h
   rename_i wE;cases h;refine⟨⟨ti,fk,da wE⟩,fun xs ys r hl vc hs x y hx hy=>?_⟩;obtain⟨a,b,rfl,rfl,BU⟩:=sI hl hs;have j9:=hx ti fk;have mH:=hy ti fk;rw[nB]at j9 mH;have ex:=j9 _ rfl;have ey:=mH _ rfl;simp only[pq,fk,hk]at vc;split at vc;case h_2=>cases vc
   rename_i k1 a1 e1;cases e1;obtain⟨c,rfl,rfl⟩:=yi (k:=k1) (a:=a1) (b:=b) (r:=r) (by revert BU;cases b<;>simp[nm,tE]);cases ex;cases ey
   exact⟨Hu fB,fun em=>kj fB (.inl ⟨_,rfl⟩) em⟩
  ·rename_i hk
   have e:=oV (dw▸hk);subst e;split at h;case h_2=>cases h
   rename_i wE;cases h;refine⟨⟨ti,fk,da wE⟩,fun xs ys r hl vc hs x y hx hy=>?_⟩;obtain⟨a,b,rfl,rfl,BU⟩:=sI hl hs;have j9:=hx ti fk;have mH:=hy ti fk;rw[nB]at j9 mH;have ex:=j9 _ rfl;have ey:=mH _ rfl;simp only[pq,fk,hk]at vc;split at vc;case h_2=>cases vc
   rename_i a1 e1;cases e1;cases b<;>simp only[nm]at BU<;>try (cases BU;done)
   cases ex;cases ey
   refine⟨?_,fun em=>kj fB (.inr rfl) em⟩;rw[Op.equalIn];simp only[Sem.run_bind,run_underlying fB,Result.andThen_ok,Sem.run_pure];rw[Option.some.inj BU]
  ·rename_i hk
   obtain⟨ms,e⟩:=vp (dw▸hk);subst e;split at h;case h_2=>cases h
   rename_i d' wE;cases h;refine⟨⟨ti,fk,da wE⟩,fun xs ys r hl vc hs x y hx hy=>?_⟩;obtain⟨a,b,rfl,rfl,BU⟩:=sI hl hs;have j9:=hx ti fk;have mH:=hy ti fk;rw[nB]at j9 mH;have ex:=j9 _ rfl;have ey:=mH _ rfl;simp only[pq,fk,hk]at vc;split at vc;case h_2=>cases vc
   rename_i u k a1 e1;cases e1;split at vc;case h_2=>cases vc
   rename_i ui NM;split at vc;case h_2=>cases vc
   rename_i k' dC G1;have:=of_decide_eq_true vc;subst this;obtain⟨iu,du,ND,Su,_,_,V6,_,V1,_⟩:=hT u ui NM;have eu:=lX (V6.symm.trans dC);subst eu;have Q5:=(V1 G1).2 k dC;obtain⟨N',rfl⟩:∃ N',N=N'+1:=⟨N-1,by omega⟩;obtain⟨v,rfl,hv⟩:=ex;have hv:v = .int k a1:=hv;subst hv;refine⟨?_,fun em=>?_⟩
   ·cases b<;>simp only[nm]at BU<;>try (cases BU;done)
    rename_i u' b1;obtain⟨v',rfl,Hm⟩:=ey;split at BU
    ·rename_i hu
     have:=Nat.eq_of_beq_eq_true hu;subst this;obtain⟨c,rfl,rfl⟩:=yi BU;have Hm:v' = .int k c:=Hm;subst Hm;rw[Op.equalIn];simp only[Sem.run_bind,run_underlying fB,Result.andThen_ok];simp[typeInfo,ND,Q5,Sem.run_bind,Hu Su]
    ·rename_i hu hn
     cases BU;have ef:u≠u':=by rintro rfl;simp at hu
     rw[Op.equalIn];simp only[Sem.run_bind,run_underlying fB,Result.andThen_ok];simp[ef]
    ·cases BU
   ·rw[Instr.checkKey]
    simp only[Sem.run_bind,run_underlying fB,Result.andThen_ok];simp[typeInfo,ND,Q5,kj Su (.inl ⟨_,rfl⟩)]
  ·rename_i fs hk
   obtain⟨fa,rfl,rfl,vd⟩:=gR (dw▸hk);split at h;case h_2=>cases h
   rename_i m G2 hm;split at h;case h_2=>cases h
   rename_i wE;cases h;have Cl:P.stoodInHeld t=false:=(Re G2).1;refine⟨⟨ti,fk,da wE⟩,fun xs ys r hl vc hs x y hx hy=>?_⟩;simp only[pq,fk,hk]at vc;have Jl:=pa hs;have j9:=hx ti fk;have mH:=hy ti fk;rw[nB]at j9 mH;simp only[qM,if_true]at j9 mH;obtain⟨lx,rfl,qE⟩:=j9;obtain⟨ly,rfl,sn⟩:=mH;obtain⟨_,hF⟩:=qZ (P:=P) (F:=F) (w:=w) hT (N:=N) (fun t c h=>qh hT d t c h N (by omega)) fa.toList vd 0 _ hm;obtain⟨h1,h2⟩:=hF xs ys r lx ly qE sn vc (by omega) (by omega) (by
    simp only[List.drop_zero,Nat.sub_zero];rw[List.take_of_length_le (by omega),List.take_of_length_le (by omega)];exact hs)
   have uf:P.fieldsOf t=fa:=by simp[Program.fieldsOf,fB]
   refine⟨by rw[run_equalIn_struct w N t lx ly (by rw[uf];exact fB) Cl,uf];exact h1,fun em=>?_⟩;rw[Instr.checkKey];simp only[Sem.run_bind,run_underlying fB,Result.andThen_ok];rw[<- Array.forIn_toList];rw[h2 em];rfl
  ·rename_i m e hk
   have e':=ek (dw▸hk);subst e';split at h;case h_2=>cases h
   rename_i c hc;split at h;case h_2=>cases h
   rename_i wE;cases h;refine⟨⟨ti,fk,da wE⟩,fun xs ys r hl vc hs x y hx hy=>?_⟩;simp only[pq,fk,hk]at vc;have Jl:=pa hs;have j9:=hx ti fk;have mH:=hy ti fk;rw[nB]at j9 mH;simp only[qM,if_true]at j9 mH;obtain⟨lx,rfl,qE⟩:=j9;obtain⟨ly,rfl,sn⟩:=mH;have he:=qh hT d e (c+1) hc N (by omega);obtain⟨ei0,YY⟩:∃ ei,T.get e=some ei:=by obtain⟨⟨ei,iF,_⟩,_⟩:=he;exact⟨ei,iF⟩
   obtain⟨h1,h2⟩:=q8 hT he m 0 xs ys r lx ly qE sn (by
    obtain⟨⟨ei,iF,Mq⟩,_⟩:=he;simp only[iF,Mq]at vc;simpa using vc) (by rw[Nat.zero_add];exact hl) (by rw[Nat.zero_add,<- Jl];exact hl) (by simpa using hs)
   obtain⟨⟨ei,iF,Mq⟩,_⟩:=he;obtain⟨ie,_,g8,_,ea,_⟩:=hT e ei iF;have Q3:P.cellsOf e=c+1:=by simp[Program.cellsOf,g8,<- ea,Mq]
   refine⟨by rw[run_equalIn_array w N lx ly fB g8,Q3,List.range_eq_range'];exact h1,fun em=>?_⟩;rw[Instr.checkKey];simp only[Sem.run_bind,run_underlying fB,Result.andThen_ok];simp only[Std.Legacy.Range.forIn_eq_forIn_range',Std.Legacy.Range.size,Nat.sub_zero,Nat.add_one_sub_one,Nat.div_one];rw[h2 em];rfl
  ·cases h
end
end Go.PX
