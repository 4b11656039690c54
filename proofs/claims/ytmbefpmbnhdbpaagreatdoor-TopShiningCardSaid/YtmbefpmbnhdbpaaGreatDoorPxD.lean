import Derived.Test.YtmbefpmbnhdbpaaGreatDoorPxC
import Derived.Deep.AppendSrc
import Derived.ChangeKeysEq
set_option linter.all false
namespace Go.PX
open Go.RowKit
section
variable {σ : Type} {cx : Cx σ} {r : Option Nat} {m : List Nat} {L : Loc} {F : Nat -> Nat} {st : St σ} {a : Act} {w : World}
theorem Good.N1(hh:Good cx r m L F st a w){id d:Nat}{o0 o:Obj}(hpd:¬ pinned d)(h0:get st.heap id=some o0)(kC:aS L id o0){w':World}
  (Uu:w'.os=w.os) (ht:w'.tape=w.tape) (hu:w'.output=w.output) (dD:w'.heap.size=w.heap.size) (hk:∀ b,b≠L.ρ id->w'.heap[b]?=w.heap[b]?)
  (vj:∀ ds,w.heap[L.ρ id]?≠some (.deferred ds)) (pq:∀ lp,w.heap[L.ρ id]?≠some (.loop lp))
  (ho:bU cx.yv ⟨fun i=>if i=d then L.ρ id else L.ρ i,fun i=>if i=d then L.κ id else L.κ i⟩ F w' d o) :
  Good cx r m ⟨fun i=>if i=d then L.ρ id else L.ρ i,fun i=>if i=d then L.κ id else L.κ i⟩ F (bV (bV st (.del id)) (.new d o)) a w'/\Tr F w F w':=by
 obtain⟨hF,Oy⟩:=hh.heap.own id o0 h0 kC;have tr:Tr F w F w':=.jc Uu ht hu (by omega) (fun _=>Nat.le_refl _) hh.heap.fresh fun b _ hF'=>hk b (by rintro rfl;omega);have hC:∀ c,cx.C st.s c->w'.heap[c]?=w.heap[c]?:=fun c hc=>hk c (by rintro rfl;exact Oy hc);have hg:∀ i o',get (bV (bV st (.del id)) (.new d o)).heap i=some o'->(i=d/\o'=o)\/(i≠d/\i≠id /\ ∃ o1,get st.heap i=some o1/\o'=Obj.aJ (bp d) o1):=by
  intro i o' hi;simp only[bV,fW,e6,bY,e5]at hi;split at hi
  ·rename_i e;left;exact⟨e,by cases hi;rfl⟩
  ·rename_i e
   right;by_cases hid:i=id
   ·simp[hid]at hi
   ·refine⟨e,hid,?_⟩
    cases h1:get st.heap i with
    | none=>simp[h1]at hi
    | some o1=>simp[h1,hid]at hi;exact⟨o1,rfl,hi.symm⟩
 have key:∀ i o',get (bV (bV st (.del id)) (.new d o)).heap i=some o'->i≠d->aS ⟨fun i=>if i=d then L.ρ id else L.ρ i,fun i=>if i=d then L.κ id else L.κ i⟩ i o'->i≠id /\ ∃ o1,get st.heap i=some o1/\aS L i o1:=by
  intro i o' hi er hb;rcases hg i o' hi with⟨rfl,rfl⟩|⟨_,hid,o1,h1,rfl⟩
  ·exact absurd rfl er
  ·refine⟨hid,o1,h1,?_⟩
   have:=(fh _ d i o1).1 hb;cases o1<;>simp_all[aS]
 refine⟨⟨⟨cx.gE hh.heap.hg tr (fun c hc=>hh.heap.fresh c (by omega)) fun c hc=>⟨hC c hc,rfl⟩,fun c hc=>by rw[dD];exact hh.heap.hP c hc,fun c hc=>hh.heap.fresh c (by omega),?_,?_,?_⟩,?_,hh.tZ,?_,hh.xe,?_,fun i hi=>?_,hh.ve⟩,tr⟩
 ·intro i o' hi
  rcases hg i o' hi with⟨rfl,rfl⟩|⟨er,hid,o1,h1,rfl⟩
  ·exact ho
  ·refine bU.mono (L:=L) tr i _ (fun j hj=>?_) ⟨by simp[er],by simp[er]⟩ (fun hb=>hk _ ?_) (bU.kill d i o1 (hh.heap.obj i o1 h1))
   ·have:j≠d:=by rintro rfl;exact q9 j o1 hj
    simp[this]
   ·intro e
    exact hid (hh.heap.inj i id o1 o0 h1 h0 ((fh L d i o1).1 hb) kC e)
 ·intro i o' hi hb
  by_cases nX:i=d
  ·subst nX;simp only[if_true];exact⟨hF,Oy⟩
  ·obtain⟨_,o1,h1,nW⟩:=key i o' hi nX hb
   simp only[nX,if_false];exact hh.heap.own i o1 h1 nW
 ·intro i j o' p hi hj mf jt e
  by_cases nX:i=d<;>by_cases J1:j=d
  ·rw[nX,J1]
  ·exfalso
   obtain⟨aaX,p1,xH,JX⟩:=key j p hj J1 jt;simp[nX,J1]at e;exact aaX (hh.heap.inj j id p1 o0 xH h0 JX kC e.symm)
  ·exfalso
   obtain⟨aaW,p1,xH,JX⟩:=key i o' hi nX mf;simp[nX,J1]at e;exact aaW (hh.heap.inj i id p1 o0 xH h0 JX kC e)
  ·obtain⟨_,o1,S7,nW⟩:=key i o' hi nX mf
   obtain⟨_,p1,xH,JX⟩:=key j p hj J1 jt;simp only[nX,J1,if_false]at e;exact hh.heap.inj i j o1 p1 S7 xH nW JX e
 ·intro s v hs
  simp only[bV,bY]at hs
  cases h1:get st.env s with
  | none=>simp[h1]at hs
  | some v0=>
   simp[h1]at hs;subst hs;obtain⟨x,hx,hr⟩:=hh.env s v0 h1;refine⟨x,hx,br.mono tr _ x (fun j hj=>?_) (br.kill d v0 x hr)⟩;have:j≠d:=by rintro rfl;exact mX j v0 hj
   simp[this]
 ·intro b hb
  have:=(hh.pB b hb).1;exact⟨by rw[hk b (by rintro rfl;exact vj _ this)];exact this,(hh.pB b hb).2⟩
 ·intro l hl
  obtain⟨lp,Gw⟩:=hh.lk l hl;exact⟨lp,⟨by rw[hk l (by rintro rfl;exact pq _ Gw.1.1)];exact Gw.1.1,Gw.1.2⟩,Gw.2⟩
 ·have:i≠d:=by rintro rfl;exact hpd hi
  simp only[this,if_false];exact hh.jF i hi
end
theorem bx.jR(c:bx):c.len=c.bJ.length:=by
 cases c<;>simp[bx.len,bx.bJ,cc]
theorem bx.rj(c:bx)(off n:Nat):(c.part off n).bJ=(c.bJ.drop off).take n:=by
 cases c<;>simp[bx.part,bx.bJ,cc,List.map_drop,List.map_take]
theorem bx.CI(c x:bx):(c.app x).bJ=c.bJ++x.bJ:=by
 cases c<;>cases x<;>simp[bx.app,bx.bJ,cc]
theorem iE{α:Type}{sz:Nat}:∀ {es:List (List α)} (n:Nat),dE sz es->(es.take n).flatten=es.flatten.take (n*sz)
 | [],n,_=>by simp
 | f::es,0,_=>by simp
 | f::es,n+1,h=>by
  have hf:=h f (List.mem_cons_self ..);have e1:(n+1)*sz=f.length+n*sz:=by rw[Nat.succ_mul];omega
  rw[List.take_succ_cons,List.flatten_cons,List.flatten_cons,iE n (fun e he=>h e (List.mem_cons_of_mem _ he)),e1,List.take_length_add_append]
theorem pj{α:Type}{sz:Nat}:∀ {es:List (List α)} (n:Nat),dE sz es->(es.drop n).flatten=es.flatten.drop (n*sz)
 | [],n,_=>by simp
 | f::es,0,_=>by simp
 | f::es,n+1,h=>by
  have hf:=h f (List.mem_cons_self ..);have e1:(n+1)*sz=f.length+n*sz:=by rw[Nat.succ_mul];omega
  rw[List.drop_succ_cons,List.flatten_cons,pj n (fun e he=>h e (List.mem_cons_of_mem _ he)),e1,List.drop_length_add_append]
section
variable {yv : Option Nat} {L : Loc} {F : Nat -> Nat} {w : World}
theorem dU.cells{b off sz:Nat}:∀ {es:List (List D)},dU F w b off sz es -> ∃ l:List Value,bt F w es.flatten l/\l.length=es.length*sz /\ ∀ (j:Nat) v,l[j]?=some v->w.cell? ⟨b,off+j,none⟩=some v:=by
 intro es;have at_:∀ {cs:List D} {o:Nat},dm F w b o cs -> ∃ l:List Value,bt F w cs l /\ ∀ (j:Nat) v,l[j]?=some v->w.cell? ⟨b,o+j,none⟩=some v:=by
  intro cs
  induction cs with
  | nil=>intro o _;exact⟨[],rfl,by simp⟩
  | cons c r ih=>
   intro o h;obtain⟨_,⟨x,hx,hc⟩,hr⟩:=h;obtain⟨l,hl,hj⟩:=ih hr;refine⟨x::l,⟨x,l,rfl,hc,hl⟩,fun j v hv=>?_⟩
   cases j with
   | zero=>simp at hv;subst hv;exact hx
   | succ j=>
    have:=hj j v (by simpa using hv);rw[Nat.add_assoc,Nat.add_comm 1 j]at this;exact this
 induction es generalizing off with
 | nil=>intro _;exact⟨[],rfl,by simp,by simp⟩
 | cons e r ih=>
  intro h;obtain⟨he,ha,hr⟩:=h;obtain⟨l1,h1,j1⟩:=at_ ha;obtain⟨l2,h2,e2,j2⟩:=ih hr;have e1:=h1.length;refine⟨l1++l2,?_,by simp[e1,e2,he,Nat.succ_mul];omega,fun j v hv=>?_⟩
  ·rw[List.flatten_cons]
   have:=aq.append (yv:=none) (L:=⟨fun _=>0,fun _=>0⟩) (aq.inj.2 h1) (aq.inj.2 h2);rw[<- ji]at this;exact aq.inj.1 this
  ·by_cases hj:j<l1.length
   ·rw[List.getElem?_append_left hj]at hv;exact j1 j v hv
   ·rw[List.getElem?_append_right (by omega)]at hv
    have:=j2 _ v hv;have e:off+sz+(j-l1.length)=off+j:=by omega
    rw[e]at this;exact this
theorem ud{σ':Type}{h:Heap}{s:σ'}{cx:Cx σ'}{hp:Heap}(hs:dR h hp)(hg:a7 cx L F hp s w){v:V}{fs:bx}(hf:sV h v=some fs){y:Value}(hr:br cx.yv L F w v y){sz:Nat}(hl:∀ e∈fs.bJ,e.length=sz)(dD:0<sz) :
  ∃ (ay:Option Addr) (cap:Nat) (news:List Value),y = .slice ay fs.bJ.length cap/\fs.bJ.length<=cap/\aq cx.yv L F w fs.bJ.flatten news/\news.length=fs.bJ.length*sz /\
   (fs.bJ = [] \/ ∃ b off,ay=some ⟨b,off,none⟩ /\ ∀ (j:Nat) v,news[j]?=some v->w.cell? ⟨b,off+j,none⟩=some v):=by
 unfold sV at hf;split at hf
 ·rename_i es
  cases hf;obtain⟨a0,len,cap,rfl,hlen,j6,fP⟩:=hr;have e1:(bx.dd es).bJ.length=es.length:=by simp[bx.bJ,cc]
  by_cases er:es = []
  ·subst er
   refine⟨a0,cap,[],by rw[hlen];rfl,Nat.zero_le _,rfl,by simp[bx.bJ,bg],.inl rfl⟩
  ·obtain⟨b,off,sz',rfl,Ka,tJ⟩:=fP er
   have Hh:sz'=sz:=by
    cases es with
    | nil=>exact absurd rfl er
    | cons x r=>
     have:=hl (inj x) (by simp[bx.bJ,bg]);rw[eR]at this;exact tJ.1.symm.trans this
   subst Hh;obtain⟨l,h1,h2,h3⟩:=dU.cells tJ;refine⟨_,cap,l,by rw[hlen,e1],by rw[e1,<- hlen];exact j6,?_,by rw[h2,e1],.inr ⟨b,off,rfl,h3⟩⟩;show aq _ _ _ _ (bg es).flatten l;rw[eG];exact aq.inj.2 h1
 ·cases hf
  have hr:y = .slice none 0 0:=hr;exact⟨none,0,[],hr,Nat.le_refl _,rfl,by simp[bx.bJ,bg],.inl rfl⟩
 ·rename_i id z off n
  split at hf;case h_2=>cases hf
  rename_i m es fP;split at hf;case h_2=>cases hf
  rename_i wS ou;cases hf;have wS:=eM wS;have ou:=oh ou;subst wS;rw[bx.jR]at ou;obtain⟨a0,cap,rfl,j6,TA,hb⟩:=hr;have e1:(es.part off n).bJ.length=n:=by rw[bx.rj];simp;omega
  obtain⟨_,iM,dO⟩:=hg.obj id _ (hs _ _ fP);by_cases xF:n=0
  ·subst xF
   have e0:(es.part off 0).bJ = []:=by rw[bx.rj];simp
   exact⟨a0,cap,[],by rw[e0];rfl,by rw[e0];exact Nat.zero_le _,by rw[e0];rfl,by rw[e0];simp,.inl e0⟩
  ·rcases hb with⟨h0,_⟩|⟨rfl,hb⟩
   ·omega
   have aa2:m=sz:=by
    have hx:off<es.bJ.length:=by omega
    have:=hl es.bJ[off] (by rw[bx.rj];exact List.mem_iff_getElem?.2 ⟨0,by rw[List.getElem?_take_of_lt (by omega),List.getElem?_drop];simp[hx]⟩);rw[<- this];exact(iM _ (List.getElem_mem _)).symm
   subst aa2;rcases dO with⟨he,_⟩|⟨l,E,lH,hk,M3,Hc⟩
   ·rw[he]at ou;simp at ou;omega
   have wT:(es.part off n).bJ.flatten=(es.bJ.flatten.drop (off*m)).take (n*m):=by
    rw[bx.rj,iE _ (fun e he=>iM e (List.mem_of_mem_drop he)),pj _ iM]
   have hle:(off+n)*m<=es.bJ.length*m:=Nat.mul_le_mul_right _ ou;rw[Nat.add_mul]at hle;refine⟨_,cap,((l.toList.take (es.bJ.length*m)).drop (off*m)).take (n*m),by rw[e1],by rw[e1];exact j6,by rw[wT];exact(Hc.drop _).take _,?_,.inr ⟨_,_,rfl,fun j v hv=>?_⟩⟩
   ·rw[e1];simp;omega
   ·rw[cell_of_row _ _ _ _ _ _ lH]
    have hj:j<n*m:=by have:=(List.getElem?_eq_some_iff.1 hv).1;simp at this;omega
    rw[List.getElem?_take_of_lt hj,List.getElem?_drop,List.getElem?_take_of_lt (by omega)]at hv;simpa using hv
 ·cases hf
end
section
variable {P : Program} {T : fA}
theorem run_append_room{w:World}(t tx ty e:TypeId){i:TypeInfo}(ht:P.underlying t=some (.slice e))(hi:P.info? e=some i){b off sLen sCap:Nat}{x:Value}{n:Nat}{news:List Value}(hs:Src P i.size tx x n news w)
  (sB:sLen+n<=sCap) {c:Array Value} {E:TypeId} (hb:w.heap[b]?=some (.cells c E (0,0))) (hc:off+sCap*i.size<=c.size) :
  (Builtin.append_ #[t,tx] ty #[.slice (some ⟨b,off,none⟩) sLen sCap,x]).run P w =
   .ok (.slice (some ⟨b,off,none⟩) (sLen+n) sCap) (w.setRow b (c.toList.take (off+sLen*i.size)++news++c.toList.drop (off+sLen*i.size+news.length)).toArray):=by
 have hle:(sLen+n)*i.size<=sCap*i.size:=Nat.mul_le_mul_right _ sB;rw[Nat.add_mul]at hle;have ja:=run_storeCells_at (P:=P) b (off+sLen*i.size) E news 0 c w hb (by rw[hs.newsLen];omega) hs.one;simp only[Nat.add_zero]at ja;rcases hs.kind with⟨e',hk⟩|hk<;>simp[Builtin.append_,run_underlying ht,run_underlying hk,sizeOf,typeInfo,hi,hs.len,sB,hs.cells,fG,ja]
theorem lA{w:World}(t tx ty e:TypeId){i:TypeInfo}(ht:P.underlying t=some (.slice e))(hi:P.info? e=some i){base:Option Addr}{sLen sCap:Nat}{x:Value}(hs:Src P i.size tx x 0 [] w)
  (sB:sLen<=sCap) :
  (Builtin.append_ #[t,tx] ty #[.slice base sLen sCap,x]).run P w = .ok (.slice base sLen sCap) w:=by
 cases base<;>rcases hs.kind with⟨e',hk⟩|hk<;>simp[Builtin.append_,run_underlying ht,run_underlying hk,sizeOf,typeInfo,hi,hs.len,sB,hs.cells,storeCells]
theorem HZ{w:World}{size:Nat}{u el:TypeId}(hu:P.underlying u=some (.slice el)){ay:Option Addr}{n cap:Nat}{news:List Value}(hlen:news.length=n*size)
  (hc:n=0 \/ ∃ b off,ay=some ⟨b,off,none⟩ /\ ∀ (j:Nat) v,news[j]?=some v->w.cell? ⟨b,off+j,none⟩=some v) (h1:∀ v∈news,v.oneCell'=true) :
  Src P size u (.slice ay n cap) n news w:=by
 rcases hc with rfl|⟨b,off,rfl,hj⟩
 ·have hn:news = []:=List.length_eq_zero_iff.1 (by simpa using hlen)
  subst hn
  cases ay with
  | none=>exact Src.ofNil w hu cap
  | some ad=>exact Src.ofSlice w hu ad 0 cap [] (by simp) (by simp) (fun _ h=>by cases h)
 ·exact Src.ofSlice w hu _ n cap news hlen (fun j v hv=>by rw[fG];exact hj j v hv) h1
variable {e : Env} {h : Heap} {dst : Option Nat} {K : List Wr -> Prop} {ty : TypeId} {pos : String} {after : Array Edge} {guard : Option (Nat × Bool)}
theorem wI{σ:Type}{cx:Cx σ}{r:Option Nat}{m:List Nat}{L:Loc}{F:Nat->Nat}{st:St σ}{a:Act}{w:World}(hg:Good cx r m L F st a w){d:Nat}(hd:d<a.tmps.size)
  {t tx el:TypeId} {ie:TypeInfo} {z:Value} (hu:P.underlying t=some (.slice el)) (nX:P.info? el=some ie) (hz:ie.zero=some z) (Ru:z.cells.size=ie.size) (dD:0<ie.size) (IP:0<ie.bytes)
  {base:Option Addr} {len cap n:Nat} {olds news:List Value} {x:Value} (hold:∀ w':World,(∀ y,w'.cell? y=w.cell? y)->(Builtin.firstCells ie.size len (.slice base len cap)).run P w' = .ok olds.toArray w')
  (IY:olds.length=len*ie.size) (hs:Src P ie.size tx x n news w) (Pb:cap<len+n) (mK:(len+n)*ie.bytes<=140737488355328)
  {es:bx} (xE:es.bJ.length=len+n) (iM:dE ie.size es.bJ) (hr:aq cx.yv L F w es.bJ.flatten (olds++news)) (hf:¬ cm es.bJ.flatten d) :
  ∃ v w' L' F',(Builtin.append_ #[t,tx] ty #[.slice base len cap,x]).run P w = .ok v w'/\Good cx r m L' F' (aL st [.new d (.arr ie.size es),.set d (.sl d ie.size 0 (len+n))]) (a.put (some d) v) w'/\Tr F w F' w':=by
 have pq:=hs.newsLen;have h63:((len+n:Nat):Int)<=9223372036854775807:=by
  have:len+n<=(len+n)*ie.bytes:=Nat.le_mul_of_pos_right _ IP;omega
 have bZ:=run_append_grow_src (P:=P) w t tx ty el ie z hu nX hz base len cap olds (hold w.drew fun _=>rfl) x n news hs Pb h63 (growslice_fits Pb mK);generalize hgc:grownCap w (len+n) cap el=nc at bZ;have S6:len+n<=nc:=by rw[<- hgc];exact grownCap_ge _ _ _ _
 generalize hcells:(olds++news).toArray++Builtin.zeroCells z.cells (nc-(len+n))=c' at bZ;have hmul:(len+n)*ie.size=len*ie.size+n*ie.size:=Nat.add_mul _ _ _;have GY:c'.toList.take ((len+n)*ie.size)=olds++news:=by
  rw[<- hcells];have:(olds++news).length=(len+n)*ie.size:=by simp[IY,pq,hmul]
  rw[<- this];simp only[Array.toList_append];exact List.take_left' rfl
 have s6:c'.size=nc*ie.size:=by
  rw[<- hcells];have h1:nc=(len+n)+(nc-(len+n)):=by omega
  have h2:nc*ie.size=(len+n)*ie.size+(nc-(len+n))*ie.size:=by
   conv=>lhs;rw[h1]
   rw[Nat.add_mul]
  rw[h2];simp[Builtin.zeroCells,IY,pq,Ru,hmul]
 have SV:Good cx r m L F st a w.drew:=hg.same rfl rfl rfl rfl;have QA:Tr F w F w.drew:=Tr.drew _;have qd:Tr F w.drew F (w.drew.alloc (.cells c' el)):=Tr.alloc SV.heap.fresh _;have hle:(len+n)*ie.size<=nc*ie.size:=Nat.mul_le_mul_right _ S6;have ux:=SV.new d c'.size (.arr ie.size es) (.cells c' el) (SV.fN hd) ⟨dD,iM,.inr ⟨c',el,(by show(w.drew.alloc _).heap[if d=d then w.drew.heap.size else L.ρ d]?=_;rw[if_pos rfl];exact heap_alloc_new w.drew _),(by simp),(by rw[xE,s6];exact hle),(by
  rw[xE,GY];exact aq.mY (L:=L) (Tr.trans QA qd) (fun i hi=>by simp[hi]) hf hr)⟩⟩
 refine⟨_,_,_,F,bZ,ux.set (v:=.sl d ie.size 0 (len+n)) hd ⟨_,_,rfl,S6,dD,.inr ⟨(by simp),(by simp[s6])⟩⟩,Tr.trans QA qd⟩
theorem eQ(s:ByteArray):(cg s).length=s.size:=byteCells_length s
theorem pS(a b:ByteArray):cg (a++b)=cg a++cg b:=by
 simp[cg]
theorem Se(hT:bA P T){t el:TypeId}{ei:sO}(h:Sd T t=some (el,ei)):P.underlying t=some (.slice el)/\T.get el=some ei/\gS T t=some ei:=by
 unfold Sd at h;split at h;case h_2=>cases h
 rename_i ti ht;split at h;case h_2=>cases h
 rename_i e he;split at h;case h_2=>cases h
 rename_i ei' kD;cases h;obtain⟨de,ib,fx⟩:=fK hT ht;rw[he]at fx;have hs:gS T t=some ei:=by simp[gS,ht,he,kD]
 refine⟨?_,kD,hs⟩;have:=fR fx.symm;rw[ib,this]
theorem PF(hT:bA P T){t:TypeId}(h:isStr T t=true):P.underlying t=some .string:=by
 unfold isStr at h;split at h;case h_2=>cases h
 rename_i ti ht;split at h;case h_2=>cases h
 rename_i he;obtain⟨de,ib,fx⟩:=fK hT ht;rw[he]at fx;have:=jQ fx.symm;subst this;exact ib
theorem Fw(hT:bA P T){u:TypeId}{v:V}{s:ByteArray}(hn:Hu T h u v=some s){σ:Type}{cx:Cx σ}{r:Option Nat}{m:List Nat}{L:Loc}{F:Nat->Nat}{st:St σ}{a:Act}{w:World}
  (hh:dR h st.heap) (hg:Good cx r m L F st a w) {x:Value} (hx:br cx.yv L F w v x):Src P 1 u x s.size (cg s) w:=by
 have To:∀ {s:ByteArray},(match gS T u with
  | some _=>match sV h v with
   | some (.dd [[.int .u8 c]])=>match decide (0<=c),decide (c<256) with
    | true,true=>some (⟨#[UInt8.ofNat c.toNat]⟩:ByteArray)
    | _,_=>none
   | _=>none
  | none=>none)=some s->Src P 1 u x s.size (cg s) w:=by
  intro s hn;split at hn;case h_2=>cases hn
  rename_i ui Uy;obtain⟨el',Pu,_⟩:=mn hT Uy;split at hn;case h_2=>cases hn
  rename_i c Lg;split at hn;case h_2=>cases hn
  rename_i h0 h1;cases hn;have h0:=of_decide_eq_true h0;have h1:=of_decide_eq_true h1;obtain⟨ay,cap,news,Pz,j6,C8,pq,pV⟩:=ud hh hg.heap Lg hx (sz:=1) (fun e he=>by
   simp only[bx.bJ,bg,inj,List.mem_singleton]at he;subst he;rfl) Nat.one_pos
  obtain⟨y,l',rfl,hy,lH⟩:=C8;have hy:y = .int .u8 c:=hy;have lH:l' = []:=lH;subst hy lH;have he:cg (⟨#[UInt8.ofNat c.toNat]⟩:ByteArray) = [.int .u8 c]:=by
   have:((UInt8.ofNat c.toNat).toNat:Int)=c:=by
    rw[UInt8.toNat_ofNat_of_lt' (by show c.toNat<256;omega)];omega
   show [Value.int .u8 ((UInt8.ofNat c.toNat).toNat:Int)]=_;rw[this]
  rw[he,Pz];exact HZ Pu (by simpa using pq) (pV.imp (fun h=>by cases h) fun h=>h) (fun v hv=>by
   rw[List.mem_singleton]at hv;subst hv;rfl)
 unfold Hu at hn;split at hn
 ·rename_i s'
  split at hn;case h_2=>cases hn
  rename_i hs;cases hn;have hx:x = .string s:=hx;subst hx;exact Src.ofString w (PF hT hs) s
 ·exact To hn
theorem P9(hT:bA P T){args:Array Operand}{tys:Array TypeId}{x y:Operand}{t u:TypeId}(dM:args.toList = [x,y])(E8:tys.toList = [t,u])(hk:R9 T e h dst t u x y K) :
  ∃ ws,K ws/\Out P e h ⟨dst,.call ⟨.builtin .append,args,tys⟩,ty,pos,after,guard⟩ ws:=by
 unfold R9 at hk;split at hk;case h_2=>exact hk.elim
 rename_i v yv el ei d hx hy kD;split at hk;case h_2=>exact hk.elim
 rename_i s hs;have nq:=cr hk;clear hk;obtain⟨gL,hk⟩:=nq;simp only[Bool.and_eq_true]at gL;obtain⟨gL,qc,nW⟩:=gL;have qc:=eM qc;have nW:=eM nW;obtain⟨xJ,O8,_⟩:=Se hT kD;obtain⟨ie,z,nX,hz,dD,IP,fJ,s5,Ru⟩:=ua hT O8 gL;have AZ:ie.size=1:=by omega
 have G3:ie.bytes=1:=by omega
 have bZ:∀ (a:Act) (w:World) (b:Option Addr) (l c:Nat) (v:Value) (w':World),a.eval x = .slice b l c->(Builtin.append_ #[t,u] ty #[.slice b l c,a.eval y]).run P w = .ok v w' ->
   (execOp a.eval ⟨some d,.call ⟨.builtin .append,args,tys⟩,ty,pos,after,guard⟩).run P w = .ok (.value v) w':=fun a w b l c v w' dV hv=>by
  have h1:args.map a.eval = #[.slice b l c,a.eval y]:=by
   apply Array.ext';simp[dM,dV]
  have h2:tys = #[t,u]:=by
   apply Array.ext';simp[E8]
  simp[execOp,resolve,invoke,builtin,h1,h2,hv]
 have grow:∀ {σ:Type} {cx:Cx σ} {r:Option Nat} {m:List Nat} {L:Loc} {F:Nat->Nat} {st:St σ} {a:Act} {w:World},Good cx r m L F st a w->d<a.tmps.size -> ∀ (base:Option Addr) (cap:Nat) (b:ByteArray),
   a.eval x = .slice base b.size cap->(Builtin.firstCells ie.size b.size (.slice base b.size cap)).run P w.drew = .ok (cg b).toArray w.drew->Src P 1 u (a.eval y) s.size (cg s) w->cap<b.size+s.size->b.size+s.size<=140737488355328 ->
   ∃ v w' L' F',(execOp a.eval ⟨some d,.call ⟨.builtin .append,args,tys⟩,ty,pos,after,guard⟩).run P w = .ok (.value v) w'/\Good cx r m L' F' (aL st [.new d (.buf el (b++s)),.set d (.sl d 1 0 (b++s).size)]) (a.put (some d) v) w'/\Tr F w F' w':=by
  intro σ cx r m L F st a w hg hd base cap b dV hold ta Pb mK;have hr:=run_append_grow_src (P:=P) w t u ty el ie z xJ nX hz base b.size cap (cg b) hold (a.eval y) s.size (cg s) (by rw[AZ];exact ta) Pb (by omega) (growslice_fits Pb (by rw[G3];omega));generalize hgc:grownCap w (b.size+s.size) cap el=nc at hr;have S6:b.size+s.size<=nc:=by rw[<- hgc];exact grownCap_ge _ _ _ _
  generalize hcells:(cg b++cg s).toArray++Builtin.zeroCells z.cells (nc-(b.size+s.size))=c' at hr;have ME:(b++s).size=b.size+s.size:=by simp
  have hlen:(cg b++cg s).length=b.size+s.size:=by rw[List.length_append,eQ,eQ]
  have GY:c'.toList.take (b++s).size=cg (b++s):=by
   rw[<- hcells,ME,pS,<- hlen];simp only[Array.toList_append];exact List.take_left' rfl
  have s6:c'.size=nc:=by
   rw[<- hcells];have:z.cells.size=1:=by omega
   simp only[Array.size_append,List.size_toArray,hlen,size_zeroCells,this];omega
  have SV:Good cx r m L F st a w.drew:=hg.same rfl rfl rfl rfl;have QA:Tr F w F w.drew:=Tr.drew _;have qd:Tr F w.drew F (w.drew.alloc (.cells c' el)):=Tr.alloc SV.heap.fresh _;have ux:=SV.new d c'.size (.buf el (b++s)) (.cells c' el) (SV.fN hd) ⟨c',(by show(w.drew.alloc _).heap[if d=d then w.drew.heap.size else L.ρ d]?=_;rw[if_pos rfl];exact heap_alloc_new w.drew _),(by simp),(by omega),GY⟩;refine⟨_,_,_,F,bZ a w base _ cap _ _ dV hr,ux.set (v:=.sl d 1 0 (b++s).size) hd ⟨some ⟨w.drew.heap.size,0,none⟩,nc,(by rw[ME];rfl),(by omega),Nat.one_pos,.inr ⟨(by simp),(by simp[s6])⟩⟩,Tr.trans QA qd⟩
 split at hk
 ·have nq:=cr hk
  clear hk;obtain⟨hc,hk⟩:=nq;simp only[Bool.and_eq_true]at hc;have h0:=of_decide_eq_true hc.1;have mK:=of_decide_eq_true hc.2;refine⟨_,hk,?_⟩;intro σ cx r m L F st a w he hh hg hd;have dV:a.eval x = .slice none 0 0:=hg.aR (aF he hx);obtain⟨v,w',L',F',h1,h2,h3⟩:=grow hg (hd d rfl) none 0 ByteArray.empty dV (by
   have:cg ByteArray.empty = []:=rfl;rw[this];exact run_firstCells_none _ _ 0 0 0) (Fw hT hs hh hg (hg.aR (aF he hy))) (by simp;omega) (by simp;omega)
  have e0:ByteArray.empty++s=s:=by simp
  rw[e0]at h2;exact⟨v,w',_,h1,.inl rfl,L',F',h2,h3⟩
 ·rename_i id n off len
  split at hk;case h_2=>exact hk.elim
  rename_i tb b hb;obtain⟨hc,fx⟩:=cr hk;clear hk;simp only[Bool.and_eq_true]at hc;obtain⟨ou,hk⟩:=cr fx;clear fx;simp only[Bool.and_eq_true]at ou;have G5:=eM hc.1;have qJ:=eM hc.2.1;have rT:=eM hc.2.2;have hlen:=of_decide_eq_true ou.1;have vI:=of_decide_eq_true ou.2.1;have mK:=of_decide_eq_true ou.2.2;subst G5 qJ hlen rT;refine⟨_,hk,?_⟩;intro σ cx r m L F st a w he hh hg hd;obtain⟨base,cap,dV,Y0,_,IN⟩:=hg.aR (aF he hx);rcases IN with⟨TA,_⟩|⟨rfl,IN⟩
  ·omega
  rw[Nat.zero_add,Nat.mul_one]at IN;rw[Nat.zero_mul]at dV;have h0:=hh _ _ hb;obtain⟨c,wS,ns,IQ,SL⟩:=hg.heap.obj id _ h0;have ta:=Fw hT hs hh hg (hg.aR (aF he hy));have ME:(b++s).size=b.size+s.size:=by simp
  have hfc:∀ w':World,(∀ x,w'.cell? x=w.cell? x)->(Builtin.firstCells ie.size b.size (.slice (some ⟨L.ρ id,0,none⟩) b.size cap)).run P w' = .ok (cg b).toArray w':=fun w' Xl=>by
   rw[AZ];refine run_firstCells_some w' 1 b.size _ b.size cap _ (by rw[eQ];omega) fun j v hv=>?_;have hj:j<b.size:=by have:=(List.getElem?_eq_some_iff.1 hv).1;rwa [eQ]at this
   rw[fG,Xl,cell_of_row _ _ _ _ _ _ wS,Nat.zero_add,<- Array.getElem?_toList,<- hv,<- SL,List.getElem?_take_of_lt hj]
  by_cases sB:b.size+s.size<=cap
  ·have hr:=run_append_room (P:=P) (ty:=ty) t u tb xJ nX (by rw[AZ];exact ta) sB (b:=L.ρ id) (off:=0) wS (by rw[AZ];omega)
   simp only[AZ,Nat.mul_one,Nat.zero_add]at hr;have hL:=Array.length_toList (xs:=c);have BM:=iw (cs:=c.toList) (l:=cg s) (off:=b.size) (by rw[eQ];omega);generalize rQ:(c.toList.take b.size++cg s++c.toList.drop (b.size+(cg s).length)).toArray=c' at hr;have ce:c'.toList=c.toList.take b.size++cg s++c.toList.drop (b.size+(cg s).length):=by rw[<- rQ]
   have AX:c'.size=c.size:=by rw[<- ce]at BM;simpa using BM
   obtain⟨g1,g2⟩:=hg.N1 (d:=d) (o:=.buf tb (b++s)) (hg.fN (hd d rfl)) h0 trivial (w':=w.setRow (L.ρ id) c') rfl rfl rfl (size_setRow _ _ _) (fun b hb=>setRow_other _ _ _ _ hb)
    (by rw[wS];intro ds e;cases e) (by rw[wS];intro lp e;cases e)
    ⟨c',(by show(w.setRow _ c').heap[if d=d then L.ρ id else L.ρ d]?=_;rw[if_pos rfl];exact setRow_heap _ _ _ _ _ _ wS),(by rw[AX];simpa using ns),(by omega),(by
     rw[ce,SL,pS,ME];have e1:b.size+s.size=(cg b++cg s).length:=by rw[List.length_append,eQ,eQ]
     rw[e1,List.take_left'];rfl)⟩
   exact⟨_,_,_,bZ a w _ b.size cap _ _ dV hr,.inl rfl,_,F,g1.set (v:=.sl d 1 0 (b++s).size) (hd d rfl) ⟨_,_,(by rw[ME]),(by omega),Nat.one_pos,.inr ⟨(by simp),(by simp;exact IN)⟩⟩,g2⟩
  ·obtain⟨v,w',L',F',h1,h2,h3⟩:=grow (hg.del id) (hd d rfl) _ cap b dV (hfc w.drew fun _=>rfl) ta (by omega) mK
   exact⟨v,w',_,h1,.inl rfl,L',F',h2,h3⟩
 ·exact hk.elim
theorem HB(hT:bA P T){args:Array Operand}{tys:Array TypeId}(hk:fH T e h dst .append args tys K):∃ ws,K ws/\Out P e h ⟨dst,.call ⟨.builtin .append,args,tys⟩,ty,pos,after,guard⟩ ws:=by
 simp only[fH]at hk;split at hk;case h_2=>exact hk.elim
 rename_i x y t u dM E8;split at hk
 ·exact P9 hT dM E8 hk
 split at hk;case h_2=>exact hk.elim
 rename_i ui Uy;replace hk:=Jz hk;unfold yw at hk;split at hk;case h_2=>exact hk.elim
 rename_i v uv ei d hx hy kD;split at hk;case h_2=>exact hk.elim
 rename_i fs Lg;obtain⟨gL,hk⟩:=cr hk;obtain⟨el,xJ,O8⟩:=mn hT kD;obtain⟨el',Pu,_⟩:=mn hT Uy;obtain⟨ie,z,nX,hz,dD,IP,fJ,s5,Ru⟩:=ua hT O8 gL;have bZ:∀ (a:Act) (w:World) (b:Option Addr) (l c:Nat) (v:Value) (w':World),a.eval x = .slice b l c->(Builtin.append_ #[t,u] ty #[.slice b l c,a.eval y]).run P w = .ok v w' ->
   (execOp a.eval ⟨some d,.call ⟨.builtin .append,args,tys⟩,ty,pos,after,guard⟩).run P w = .ok (.value v) w':=fun a w b l c v w' dV hv=>by
  have h1:args.map a.eval = #[.slice b l c,a.eval y]:=by
   apply Array.ext';simp[dM,dV]
  have h2:tys = #[t,u]:=by
   apply Array.ext';simp[E8]
  simp[execOp,resolve,invoke,builtin,h1,h2,hv]
 unfold yh at hk;split at hk
 ·obtain⟨hc,hk⟩:=cr hk
  simp only[Bool.and_eq_true]at hc;obtain⟨SU,jv⟩:=hc;obtain⟨mK,hk⟩:=cr hk;have mK:=of_decide_eq_true mK;refine⟨_,hk,?_⟩;intro σ cx r m L F st a w he hh hg hd;have dV:a.eval x = .slice none 0 0:=hg.aR (aF he hx);have C3:=CQ SU;obtain⟨ay,cap,news,Pz,j6,C8,pq,pV⟩:=ud hh hg.heap Lg (hg.aR (aF he hy)) (fun e he=>(C3 e he).1) dD;have h1:=C8.one (gQ fun e he=>(C3 e he).2);have ta:Src P ie.size u (a.eval y) fs.bJ.length news w:=by
   rw[Pz,<- fJ];exact HZ Pu pq (pV.imp (fun h=>by rw[h];rfl) fun h=>h) h1
  have GX:((bx.dd []).app fs).bJ=fs.bJ:=by rw[bx.CI];rfl
  have IV:(bx.dd []).len+fs.len=fs.bJ.length:=by rw[bx.jR,bx.jR];simp[bx.bJ,bg]
  rw[IV]at mK;rw[IV,fJ];by_cases h0:fs.bJ = []
  ·have xF:fs.bJ.length=0:=by rw[h0];rfl
   have J4:news = []:=List.length_eq_zero_iff.1 (by rw[pq,xF];simp);rw[xF,J4]at ta;have hr:=lA (P:=P) t u ty el xJ nX (base:=none) (sLen:=0) (sCap:=0) ta (Nat.le_refl _);have ux:=hg.jU d ie.size (hg.fN (hd d rfl)) (by rw[<- fJ];exact dD) ((bx.dd []).app fs) (by rw[GX,h0]);exact⟨_,_,_,bZ a w none 0 0 _ _ dV hr,.inl rfl,_,F,ux.set (v:=.sl d ie.size 0 fs.bJ.length) (hd d rfl) ⟨none,0,(by rw[xF]),(by rw[xF];exact Nat.le_refl _),(by rw[<- fJ];exact dD),.inl ⟨xF,rfl⟩⟩,Tr.refl F w⟩
  ·have vI:0<fs.bJ.length:=Nat.pos_of_ne_zero fun e=>h0 (List.length_eq_zero_iff.1 e)
   have:=wI (P:=P) (ty:=ty) (tx:=u) (x:=a.eval y) hg (hd d rfl) xJ nX hz Ru (by omega) (by omega) (base:=none) (len:=0) (cap:=0) (n:=fs.bJ.length) (olds:=[]) (news:=news) (fun w' _=>run_firstCells_none w' ie.size 0 0 0) (by simp) ta (by omega) (by rw[Nat.zero_add,<- s5];exact mK)
    (es:=(bx.dd []).app fs) (by rw[GX];simp) (by rw[GX,<- fJ];exact fun e he=>(C3 e he).1) (by rw[GX];exact C8) (qv jv)
   obtain⟨v,w',L',F',hv,ux,tr⟩:=this;rw[Nat.zero_add]at ux;exact⟨v,w',_,bZ a w none 0 0 v w' dV hv,.inl rfl,L',F',ux,tr⟩
 ·rename_i id n off len _
  split at hk;case h_2=>exact hk.elim
  rename_i mm Bs Wv;obtain⟨hc,fx⟩:=cr hk;clear hk;simp only[Bool.and_eq_true]at hc;obtain⟨⟨⟨G5,D5⟩,hle⟩,qJ⟩:=hc;have G5:=eM G5;have D5:=eM D5;have hle:=oh hle;have qJ:=eM qJ;rw[bx.jR]at hle;obtain⟨hc,j8⟩:=cr fx;clear fx;simp only[Bool.and_eq_true]at hc;obtain⟨SU,jv⟩:=hc;obtain⟨mK,hk⟩:=cr j8;have mK:=of_decide_eq_true mK;refine⟨_,hk,?_⟩;intro σ cx r m L F st a w he hh hg hd;subst G5 qJ;rw[D5]at Wv;clear D5;obtain⟨base,cap,dV,Y0,_,hb⟩:=hg.aR (aF he hx);have C3:=CQ SU;have h0:=hh _ _ Wv;obtain⟨_,iM,dO⟩:=hg.heap.obj id _ h0;obtain⟨ay,UW,news,Pz,Wo,C8,pq,pV⟩:=ud hh hg.heap Lg (hg.aR (aF he hy)) (fun e he=>(C3 e he).1) dD;have h1:=C8.one (gQ fun e he=>(C3 e he).2);have ta:Src P ie.size u (a.eval y) fs.bJ.length news w:=by
   rw[Pz,<- fJ];exact HZ Pu pq (pV.imp (fun h=>by rw[h];rfl) fun h=>h) h1
  have rS:(Bs.part 0 len).bJ=Bs.bJ.take len:=by rw[bx.rj];rfl
  have W0:(Bs.part 0 len).bJ.length=len:=by rw[rS];simp;omega
  have GX:((Bs.part 0 len).app fs).bJ=Bs.bJ.take len++fs.bJ:=by rw[bx.CI,rS]
  have IV:(Bs.part 0 len).len+fs.len=len+fs.bJ.length:=by rw[bx.jR,bx.jR,W0]
  have EP:((Bs.part 0 len).app fs).bJ.length=len+fs.bJ.length:=by rw[bx.CI,List.length_append,W0]
  have Ta:dE ei.size (Bs.bJ.take len):=fun e he=>iM e (List.mem_of_mem_take he);have ES:dE ei.size ((Bs.part 0 len).app fs).bJ:=by
   rw[GX];intro e he;rcases List.mem_append.1 he with he|he
   ·exact Ta e he
   ·exact(C3 e he).1
  rw[IV]at mK;rw[IV];have hold:∃ olds,(∀ w':World,(∀ x,w'.cell? x=w.cell? x)->(Builtin.firstCells ie.size len (.slice base len cap)).run P w' = .ok olds.toArray w')/\aq cx.yv L F w (Bs.bJ.take len).flatten olds/\olds.length=len*ie.size:=by
   rw[<- fJ];by_cases IV:len=0
   ·subst IV
    refine⟨[],fun w' _=>?_,by simp[aq],by simp⟩
    cases base with
    | none=>exact run_firstCells_none w' _ 0 0 cap
    | some ad=>exact run_firstCells_some w' _ 0 ad 0 cap [] (by simp) (by simp)
   ·rcases hb with⟨h0,_⟩|⟨rfl,hb⟩
    ·omega
    rcases dO with⟨he,_⟩|⟨l,E,lH,nq,M3,Hc⟩
    ·rw[he]at hle;simp at hle;omega
    have aa0:len*ei.size<=Bs.bJ.length*ei.size:=Nat.mul_le_mul_right _ hle;refine⟨(l.toList.take (Bs.bJ.length*ei.size)).take (len*ei.size),fun w' Xl=>run_firstCells_some w' _ len _ len cap _ (by simp;omega) fun j v hv=>?_,by rw[iE _ iM];exact Hc.take _,by simp;omega⟩;rw[fG,Xl,cell_of_row _ _ _ _ _ _ lH];have hj:j<len*ei.size:=by have:=(List.getElem?_eq_some_iff.1 hv).1;simp at this;omega
    rw[List.getElem?_take_of_lt hj,List.getElem?_take_of_lt (by omega)]at hv;simpa using hv
  obtain⟨olds,hold,WX,IY⟩:=hold;have Ra:aq cx.yv L F w ((Bs.part 0 len).app fs).bJ.flatten (olds++news):=by
   rw[GX,List.flatten_append];exact WX.append C8
  have MG:=hg.del id;by_cases sB:len+fs.bJ.length<=cap
  ·rcases hb with⟨nW,nr⟩|⟨rfl,hb⟩
   ·
    have xF:fs.bJ.length=0:=by omega
    have J4:news = []:=List.length_eq_zero_iff.1 (by rw[pq,xF];simp);rw[xF,J4]at ta;have hr:=lA (P:=P) t u ty el xJ nX (base:=base) (sLen:=len) (sCap:=cap) ta Y0;have JZ:((Bs.part 0 len).app fs).bJ = []:=List.length_eq_zero_iff.1 (by rw[EP];omega);have ux:=MG.jU d ei.size (MG.fN (hd d rfl)) dD ((Bs.part 0 len).app fs) JZ;exact⟨_,_,_,bZ a w base len cap _ _ dV hr,.inl rfl,_,F,ux.set (v:=.sl d ei.size 0 (len+fs.bJ.length)) (hd d rfl) ⟨base,cap,(by rw[xF];rfl),(by omega),dD,.inl ⟨(by omega),nr⟩⟩,Tr.refl F w⟩
   ·by_cases Wn:cap=0
    ·
     have xF:fs.bJ.length=0:=by omega
     have J4:news = []:=List.length_eq_zero_iff.1 (by rw[pq,xF];simp);rw[xF,J4]at ta;have hr:=lA (P:=P) t u ty el xJ nX (base:=some ⟨L.ρ id,0*ei.size,none⟩) (sLen:=len) (sCap:=cap) ta Y0;have JZ:((Bs.part 0 len).app fs).bJ = []:=List.length_eq_zero_iff.1 (by rw[EP];omega);have ux:=MG.jU d ei.size (MG.fN (hd d rfl)) dD ((Bs.part 0 len).app fs) JZ;exact⟨_,_,_,bZ a w _ len cap _ _ dV hr,.inl rfl,_,F,ux.set (v:=.sl d ei.size 0 (len+fs.bJ.length)) (hd d rfl) ⟨_,cap,(by rw[xF];rfl),(by omega),dD,.inl ⟨(by omega),Wn⟩⟩,Tr.refl F w⟩
    ·
     rw[Nat.zero_add]at hb;have hκ:L.κ id≠0:=by
      have:0<cap*ei.size:=Nat.mul_pos (by omega) dD;omega
     rcases dO with⟨_,A0⟩|⟨l,E,lH,nq,M3,Hc⟩
     ·exact absurd A0 hκ
     have hr:=run_append_room (P:=P) (ty:=ty) t u el xJ nX ta sB (b:=L.ρ id) (off:=0*ei.size) lH (by rw[nq,<- fJ];simpa using hb);simp only[Nat.zero_mul,Nat.zero_add]at hr dV;have Th:(len+fs.bJ.length)*ei.size<=cap*ei.size:=Nat.mul_le_mul_right _ sB;rw[Nat.add_mul]at Th;have aa3:news.length=fs.bJ.length*ei.size:=pq;have ack:len*ie.size=len*ei.size:=by rw[fJ]
     have hL:=Array.length_toList (xs:=l);have BM:=iw (cs:=l.toList) (l:=news) (off:=len*ie.size) (by omega);generalize rQ:(l.toList.take (len*ie.size)++news++l.toList.drop (len*ie.size+news.length)).toArray=c' at hr;have ce:c'.toList=l.toList.take (len*ie.size)++news++l.toList.drop (len*ie.size+news.length):=by rw[<- rQ]
     have AX:c'.size=l.size:=by rw[<- ce]at BM;simpa using BM
     have tr:Tr F w F (w.setRow (L.ρ id) c'):=
      .jc rfl rfl rfl (by simp) (fun _=>Nat.le_refl _) hg.heap.fresh fun b _ hF=>setRow_other _ _ _ _ (by rintro rfl;have:=(hg.heap.own id _ h0 hκ).1;omega)
     have MY:olds=l.toList.take (len*ie.size):=by
      have h2:=hold w (fun _=>rfl);have aa0:len*ei.size<=Bs.bJ.length*ei.size:=Nat.mul_le_mul_right _ hle;have h3:=run_firstCells_some (P:=P) w ie.size len ⟨L.ρ id,0*ei.size,none⟩ len cap (l.toList.take (len*ie.size)) (by rw[List.length_take,Array.length_toList,<- fJ];omega) (fun j v hv=>by
       rw[fG,cell_of_row _ _ _ _ _ _ lH];have hj:j<len*ie.size:=by have:=(List.getElem?_eq_some_iff.1 hv).1;rw[List.length_take]at this;omega
       rw[List.getElem?_take_of_lt hj]at hv;simpa using hv)
      rw[h3]at h2;simp only[Result.ok.injEq,and_true]at h2;have:=congrArg Array.toList h2;simpa using this.symm
     obtain⟨g1,g2⟩:=hg.N1 (d:=d) (o:=.arr ei.size ((Bs.part 0 len).app fs)) (hg.fN (hd d rfl)) h0 hκ (w':=w.setRow (L.ρ id) c') rfl rfl rfl (size_setRow _ _ _) (fun b hb=>setRow_other _ _ _ _ hb)
      (by rw[lH];intro ds e;cases e) (by rw[lH];intro lp e;cases e)
      ⟨dD,ES,.inr ⟨c',E,(by show(w.setRow _ c').heap[if d=d then L.ρ id else L.ρ d]?=_;rw[if_pos rfl];exact setRow_heap _ _ _ _ _ _ lH),(by rw[AX,nq];simp),(by rw[EP,AX,nq,Nat.add_mul];omega),(by
       rw[EP,ce];have e1:(len+fs.bJ.length)*ei.size=(l.toList.take (len*ie.size)++news).length:=by
        rw[List.length_append,List.length_take,aa3,Nat.add_mul];omega
       rw[e1,List.take_left',<- MY]
       ·exact aq.mY (L:=L) tr (fun i hi=>by simp[hi]) (qv jv) Ra
       ·rfl)⟩⟩
     exact⟨_,_,_,bZ a w _ len cap _ _ dV hr,.inl rfl,_,F,g1.set (v:=.sl d ei.size 0 (len+fs.bJ.length)) (hd d rfl) ⟨_,_,rfl,sB,dD,.inr ⟨(by simp),(by simp;exact hb)⟩⟩,g2⟩
  ·have:=wI (P:=P) (ty:=ty) (tx:=u) (x:=a.eval y) MG (hd d rfl) xJ nX hz Ru (by omega) (by omega) (base:=base) (len:=len) (cap:=cap) (n:=fs.bJ.length) (olds:=olds) (news:=news) hold IY ta (by omega) (by rw[<- s5];exact mK)
    (es:=(Bs.part 0 len).app fs) EP (by rw[<- fJ];exact ES) Ra (qv jv)
   obtain⟨v,w',L',F',hv,ux,tr⟩:=this;rw[<- fJ]at ux;exact⟨v,w',_,bZ a w base len cap v w' dV hv,.inl rfl,L',F',ux,tr⟩
 ·exact hk.elim
end
theorem r7:∀ {xs ys:List D} {r:Bool},dx xs ys=some r->xs.length=ys.length
 | [],[],_,_=>rfl
 | [],_::_,_,h=>by simp[dx]at h
 | _::_,[],_,h=>by simp[dx]at h
 | a::xs,b::ys,r,h=>by
  simp only[dx]at h;split at h
  ·rename_i hq;simp[r7 hq]
  ·cases h
theorem ru:∀ {xs ys:List D} {r:Bool} (n:Nat),dx xs ys=some r -> ∃ p q,dx (xs.take n) (ys.take n)=some p/\dx (xs.drop n) (ys.drop n)=some q/\r=(p&&q)
 | xs,ys,r,0,h=>⟨true,r,by simp[dx],h,by simp⟩
 | [],[],r,n+1,h=>⟨true,r,by simp[dx],h,by simp⟩
 | [],_::_,_,_+1,h=>by simp[dx]at h
 | _::_,[],_,_+1,h=>by simp[dx]at h
 | a::xs,b::ys,r,n+1,h=>by
  simp only[dx]at h;split at h;case h_2=>cases h
  rename_i p q hp hq;cases h;obtain⟨p',q',h1,h2,rfl⟩:=ru n hq;exact⟨p&&p',q',by simp[dx,hp,h1],by simpa using h2,by rw[Bool.and_assoc]⟩
theorem HW{a b:D}(h:u1 a b=some true):a=b:=by
 unfold u1 at h;split at h
 ·split at h
  ·rename_i he
   rw[of_decide_eq_true he,of_decide_eq_true (Option.some.inj h)]
  ·cases h
 ·cases h
theorem HV{a b:D}(h:kV a b=some true):a=b:=by
 unfold kV at h;split at h
 ·split at h
  ·rename_i he
   rw[of_decide_eq_true he,of_decide_eq_true (Option.some.inj h)]
  ·cases h
 ·rename_i a b
  cases a<;>cases b<;>simp_all
 ·split at h
  ·rename_i ht
   rw[Nat.eq_of_beq_eq_true ht,HW h]
  ·cases h
  ·cases h
 ·cases h
theorem Ao:∀ {xs ys:List D},dx xs ys=some true->xs=ys
 | [],[],_=>rfl
 | [],_::_,h=>by simp[dx]at h
 | _::_,[],h=>by simp[dx]at h
 | a::xs,b::ys,h=>by
  simp only[dx]at h;split at h;case h_2=>cases h
  rename_i p q hp hq;simp only[Option.some.injEq,Bool.and_eq_true]at h;obtain⟨rfl,rfl⟩:=h;rw[Ao hq]
  congr 1
  exact HV hp
section
variable {P : Program} {T : fA} {F : Nat -> Nat} {w : World}
theorem wc{xs ys:List D}{r:Bool}(hl:xs.length=1)(h:dx xs ys=some r):∃ a b,xs = [a]/\ys = [b]/\kV a b=some r:=by
 have S1:=r7 h;obtain⟨a,rfl⟩:=List.length_eq_one_iff.1 hl;obtain⟨b,rfl⟩:=List.length_eq_one_iff.1 (by rw[<- S1];rfl);refine⟨a,b,rfl,rfl,?_⟩;simp only[dx]at h;split at h
 ·rename_i hp hq
  cases hq;simpa[hp]using h
 ·cases h
theorem Cf{k:IntKind}{a:Int}{b:D}{r:Bool}(h:u1 (.int k a) b=some r):∃ c,b = .int k c/\r=decide (a=c):=by
 unfold u1 at h;split at h
 ·rename_i k1 a1 k2 b1 e
  cases e;split at h
  ·rename_i he
   have:=of_decide_eq_true he;subst this;exact⟨_,rfl,(Option.some.inj h).symm⟩
  ·cases h
 ·cases h
theorem int_eq{N:Nat}{t:TypeId}{k0 k:IntKind}(ib:P.underlying t=some (.int k0)){a c:Int}:(Op.equalIn (N+1) t (.int k a) (.int k c)).run P w = .ok (decide (a=c)) w:=
 (run_equalIn_int w N t _ _ _ _ ib).trans (by simp;rfl)
theorem mz{N:Nat}{t:TypeId}{dk:TypeDesc}(ib:P.underlying t=some dk)(C2:(∃ k,dk = .int k)\/dk = .bool){x:Value}(em:Bool):(Instr.checkKey em (N+1) t x).run P w = .ok () w:=by
 unfold Instr.checkKey;rcases C2 with⟨k,rfl⟩|rfl<;>simp[run_underlying ib]
def CA(P:Program)(T:fA)(F:Nat->Nat)(w:World)(N d:Nat)(t:TypeId)(n:Nat):Prop:=
 (∃ ti,T.get t=some ti/\ti.size=n) /\ ∀ (xs ys:List D) (r:Bool),xs.length=n->sf T d t xs=true->dx xs ys=some r -> ∀ x y,qk T F w t xs x->qk T F w t ys y ->
  (Op.equalIn N t x y).run P w = .ok r w /\ ∀ em,(Instr.checkKey em N t x).run P w = .ok () w
theorem jd{α:Type}(xs:List α){n c m:Nat}(h:n+c<=m) :
  (((xs.drop n).take (m-n)).take c=(xs.drop n).take c)/\(((xs.drop n).take (m-n)).drop c=(xs.drop (n+c)).take (m-(n+c))):=by
 constructor
 ·rw[List.take_take,Nat.min_eq_left (by omega)]
 ·rw[List.drop_take,List.drop_drop]
  congr 1
  omega
theorem uj (hT : bA P T) {N d : Nat} {f : TypeId -> Option Nat} (hf : ∀ t c, f t = some c -> CA P T F w N d t c) : ∀ (fs : List Field), (∀ f ∈ fs, (f.name == "_") = false) -> ∀ (n m : Nat), qz f (fs.map fun f => (f.offset, f.type)) n = some m ->
  n<=m /\ ∀ (xs ys:List D) (r:Bool) (lx ly:Array Value),bt F w xs lx.toList->bt F w ys ly.toList->BA T (fun t xs=>sf T d t xs) (fs.map fun f=>(f.offset,f.type)) xs=true->m<=xs.length->m<=ys.length->dx ((xs.drop n).take (m-n)) ((ys.drop n).take (m-n))=some r ->
   (Op.eqFields N lx ly fs).run P w = .ok r w /\
   ∀ em, (forIn (m := Sem) fs PUnit.unit fun f _ => (if f.name ≠ "_" then do
     Instr.checkKey em N f.type (<- part f.type lx f.offset)
     pure (ForInStep.yield PUnit.unit)
    else pure (ForInStep.yield PUnit.unit))).run P w = .ok PUnit.unit w
 | [],_,n,m,h=>by
  simp only[List.map_nil,qz,Option.some.injEq]at h;subst h;refine⟨Nat.le_refl _,fun xs ys r lx ly _ _ _ _ _ h=>?_⟩;simp[dx]at h;subst h;simp[Op.eqFields]
 | g::fs,zf,n,m,h=>by
  simp only[List.map_cons,qz]at h;split at h;case h_2=>cases h
  rename_i c qJ hc;have qJ:=eM qJ;obtain⟨⟨ti,iC,dD⟩,gL⟩:=hf _ _ hc;obtain⟨hle,M1⟩:=uj hT hf fs (fun g hg=>zf g (List.mem_cons_of_mem _ hg)) _ _ h;refine⟨by omega,fun xs ys r lx ly tK vG Li hxm hym hs=>?_⟩;simp only[List.map_cons,BA,iC]at Li;split at Li;case h_2=>cases Li
  rename_i fx;obtain⟨p,q,hp,hq,rfl⟩:=ru (c+1) hs;rw[(jd xs hle).1,(jd ys hle).1]at hp;rw[(jd xs hle).2,(jd ys hle).2]at hq;have Pt:ti.size=c+1:=dD;obtain⟨x,hx,Pw⟩:=kQ (F:=F) (w:=w) hT iC tK (off:=g.offset) (by omega) (by omega);obtain⟨y,hy,Px⟩:=kQ (F:=F) (w:=w) hT iC vG (off:=g.offset) (by omega) (by omega);rw[Pt,qJ]at Pw Px;rw[Pt,qJ]at fx;obtain⟨h1,h2⟩:=gL _ _ p (by simp;omega) fx hp x y Pw Px;obtain⟨h3,h4⟩:=M1 xs ys q lx ly tK vG Li hxm hym hq
  have Y2 : g.name ≠ "_" := by
   have:=zf g (List.mem_cons_self ..);simpa using this
  refine⟨?_,fun em=>?_⟩
  ·simp only[Op.eqFields,Y2,ne_eq,not_false_eq_true,if_true,Sem.run_bind,hx,hy,Result.andThen_ok,h1]
   cases p
   ·simp
   ·simp[h3]
  ·simp only[List.forIn_cons,Sem.run_bind,Y2,ne_eq,not_false_eq_true,if_true,Result.andThen_ok,hx,h2 em,Sem.run_pure]
   exact h4 em
theorem uk(hT:bA P T){N d:Nat}{e:TypeId}{c:Nat}(he:CA P T F w N d e (c+1)):∀ (n i:Nat) (xs ys:List D) (r:Bool) (lx ly:Array Value),bt F w xs lx.toList->bt F w ys ly.toList->BB (fun xs=>sf T d e xs) (c+1) n (xs.drop (i*(c+1)))=true->xs.length=(i+n)*(c+1)->ys.length=(i+n)*(c+1) ->
  dx (xs.drop (i*(c+1))) (ys.drop (i*(c+1)))=some r ->
   (Op.eqItems N e (c+1) lx ly (List.range' i n)).run P w = .ok r w /\
   ∀ em,(forIn (m:=Sem) (List.range' i n) PUnit.unit fun j _=>(do
    Instr.checkKey em N e (<- part e lx (j*(<- sizeOf e)))
    pure (ForInStep.yield PUnit.unit))).run P w = .ok PUnit.unit w
 | 0,i,xs,ys,r,lx,ly,tK,vG,_,Kg,Hj,hs=>by
  have e1:xs.drop (i*(c+1)) = []:=List.drop_eq_nil_of_le (by rw[Kg];simp);have e2:ys.drop (i*(c+1)) = []:=List.drop_eq_nil_of_le (by rw[Hj];simp);rw[e1,e2]at hs;simp only[dx,Option.some.injEq]at hs;subst hs;simp[Op.eqItems]
 | n+1,i,xs,ys,r,lx,ly,tK,vG,Li,Kg,Hj,hs=>by
  simp only[BB]at Li;split at Li;case h_2=>cases Li
  rename_i fx;obtain⟨⟨ti,iC,dD⟩,gL⟩:=he;have e1:(i+1)*(c+1)=i*(c+1)+(c+1):=Nat.succ_mul _ _;have e2:(i+(n+1))*(c+1)=i*(c+1)+n*(c+1)+(c+1):=by rw[Nat.add_mul,Nat.succ_mul];omega
  have e3:(i+1+n)=i+(n+1):=by omega
  obtain⟨p,q,hp,hq,rfl⟩:=ru (c+1) hs;obtain⟨x,hx,Pw⟩:=kQ (F:=F) (w:=w) hT iC tK (off:=i*(c+1)) (by omega) (by omega);obtain⟨y,hy,Px⟩:=kQ (F:=F) (w:=w) hT iC vG (off:=i*(c+1)) (by omega) (by omega);rw[dD]at Pw Px;obtain⟨h1,h2⟩:=gL _ _ p (by simp;omega) fx hp x y Pw Px;rw[List.drop_drop,List.drop_drop,<- e1]at hq;rw[List.drop_drop,<- e1]at Li;obtain⟨h3,h4⟩:=uk hT ⟨⟨ti,iC,dD⟩,gL⟩ n (i+1) xs ys q lx ly tK vG Li (by rw[e3];exact Kg) (by rw[e3];exact Hj) hq;have fJ:(sizeOf e).run P w = .ok (c+1) w:=by rw[<- dD];exact fz hT iC
  refine⟨?_,fun em=>?_⟩
  ·simp only[List.range'_succ,Op.eqItems,Sem.run_bind,hx,hy,Result.andThen_ok,h1]
   cases p
   ·simp
   ·simp[h3]
  ·simp only[List.range'_succ,List.forIn_cons,Sem.run_bind,fJ,Result.andThen_ok,hx,h2 em,Sem.run_pure]
   exact h4 em
theorem sX(hT:bA P T):∀ (d:Nat) (t:TypeId) (n:Nat),flat T d t=some n -> ∀ N,d<=N->CA P T F w N d t n
 | 0,_,_,h,_,_=>by simp[flat]at h
 | d+1,t,n,h,0,hN=>by omega
 | d+1,t,n,h,N+1,hN=>by
  simp only[flat]at h;split at h
  ·cases h
  rename_i ti iC;obtain⟨i,de,hi,ib,_,_,e8,nV,WC,_⟩:=hT t ti iC;split at h
  ·rename_i k hk
   have e:=oz (e8▸hk);subst e;split at h;case h_2=>cases h
   rename_i qc;cases h;refine⟨⟨ti,iC,eM qc⟩,fun xs ys r hl zc hs x y hx hy=>?_⟩;obtain⟨a,b,rfl,rfl,DZ⟩:=wc hl hs;have kE:=hx ti iC;have py:=hy ti iC;rw[nV]at kE py;have ex:=kE _ rfl;have ey:=py _ rfl;simp only[sf,iC,hk]at zc;split at zc;case h_2=>cases zc
   rename_i k1 a1 e1;cases e1;obtain⟨c,rfl,rfl⟩:=Cf (k:=k1) (a:=a1) (b:=b) (r:=r) (by revert DZ;cases b<;>simp[kV,u1]);cases ex;cases ey
   exact⟨int_eq ib,fun em=>mz ib (.inl ⟨_,rfl⟩) em⟩
  ·rename_i hk
   have e:=rV (e8▸hk);subst e;split at h;case h_2=>cases h
   rename_i qc;cases h;refine⟨⟨ti,iC,eM qc⟩,fun xs ys r hl zc hs x y hx hy=>?_⟩;obtain⟨a,b,rfl,rfl,DZ⟩:=wc hl hs;have kE:=hx ti iC;have py:=hy ti iC;rw[nV]at kE py;have ex:=kE _ rfl;have ey:=py _ rfl;simp only[sf,iC,hk]at zc;split at zc;case h_2=>cases zc
   rename_i a1 e1;cases e1;cases b<;>simp only[kV]at DZ<;>try (cases DZ;done)
   cases ex;cases ey
   refine⟨?_,fun em=>mz ib (.inr rfl) em⟩;rw[Op.equalIn];simp only[Sem.run_bind,run_underlying ib,Result.andThen_ok,Sem.run_pure];rw[Option.some.inj DZ]
  ·rename_i hk
   obtain⟨ms,e⟩:=zu (e8▸hk);subst e;split at h;case h_2=>cases h
   rename_i d' qc;cases h;refine⟨⟨ti,iC,eM qc⟩,fun xs ys r hl zc hs x y hx hy=>?_⟩;obtain⟨a,b,rfl,rfl,DZ⟩:=wc hl hs;have kE:=hx ti iC;have py:=hy ti iC;rw[nV]at kE py;have ex:=kE _ rfl;have ey:=py _ rfl;simp only[sf,iC,hk]at zc;split at zc;case h_2=>cases zc
   rename_i u k a1 e1;cases e1;split at zc;case h_2=>cases zc
   rename_i ui Uy;split at zc;case h_2=>cases zc
   rename_i k' fx ML;have:=of_decide_eq_true zc;subst this;obtain⟨iu,du,YW,Us,_,_,aaY,_,aaT,_⟩:=hT u ui Uy;have eu:=oz (aaY.symm.trans fx);subst eu;have Wp:=(aaT ML).2 k fx;obtain⟨N',rfl⟩:∃ N',N=N'+1:=⟨N-1,by omega⟩;obtain⟨v,rfl,hv⟩:=ex;have hv:v = .int k a1:=hv;subst hv;refine⟨?_,fun em=>?_⟩
   ·cases b<;>simp only[kV]at DZ<;>try (cases DZ;done)
    rename_i u' b1;obtain⟨v',rfl,M7⟩:=ey;split at DZ
    ·rename_i hu
     have:=Nat.eq_of_beq_eq_true hu;subst this;obtain⟨c,rfl,rfl⟩:=Cf DZ;have M7:v' = .int k c:=M7;subst M7;rw[Op.equalIn];simp only[Sem.run_bind,run_underlying ib,Result.andThen_ok];simp[typeInfo,YW,Wp,Sem.run_bind,int_eq Us]
    ·rename_i hu hn
     cases DZ;have er:u≠u':=by rintro rfl;simp at hu
     rw[Op.equalIn];simp only[Sem.run_bind,run_underlying ib,Result.andThen_ok];simp[er]
    ·cases DZ
   ·rw[Instr.checkKey]
    simp only[Sem.run_bind,run_underlying ib,Result.andThen_ok];simp[typeInfo,YW,Wp,mz Us (.inl ⟨_,rfl⟩)]
  ·rename_i fs hk
   obtain⟨fa,rfl,rfl,zf⟩:=jw (e8▸hk);split at h;case h_2=>cases h
   rename_i m MM hm;split at h;case h_2=>cases h
   rename_i qc;cases h;have G0:P.stoodInHeld t=false:=(WC MM).1;refine⟨⟨ti,iC,eM qc⟩,fun xs ys r hl zc hs x y hx hy=>?_⟩;simp only[sf,iC,hk]at zc;have S1:=r7 hs;have kE:=hx ti iC;have py:=hy ti iC;rw[nV]at kE py;simp only[tR,if_true]at kE py;obtain⟨lx,rfl,tK⟩:=kE;obtain⟨ly,rfl,vG⟩:=py;obtain⟨_,hF⟩:=uj (P:=P) (F:=F) (w:=w) hT (N:=N) (fun t c h=>sX hT d t c h N (by omega)) fa.toList zf 0 _ hm;obtain⟨h1,h2⟩:=hF xs ys r lx ly tK vG zc (by omega) (by omega) (by
    simp only[List.drop_zero,Nat.sub_zero];rw[List.take_of_length_le (by omega),List.take_of_length_le (by omega)];exact hs)
   have C3:P.fieldsOf t=fa:=by simp[Program.fieldsOf,ib]
   refine⟨by rw[run_equalIn_struct w N t lx ly (by rw[C3];exact ib) G0,C3];exact h1,fun em=>?_⟩;rw[Instr.checkKey];simp only[Sem.run_bind,run_underlying ib,Result.andThen_ok];rw[<- Array.forIn_toList];rw[h2 em];rfl
  ·rename_i m e hk
   have e':=gA (e8▸hk);subst e';split at h;case h_2=>cases h
   rename_i c hc;split at h;case h_2=>cases h
   rename_i qc;cases h;refine⟨⟨ti,iC,eM qc⟩,fun xs ys r hl zc hs x y hx hy=>?_⟩;simp only[sf,iC,hk]at zc;have S1:=r7 hs;have kE:=hx ti iC;have py:=hy ti iC;rw[nV]at kE py;simp only[tR,if_true]at kE py;obtain⟨lx,rfl,tK⟩:=kE;obtain⟨ly,rfl,vG⟩:=py;have he:=sX hT d e (c+1) hc N (by omega);obtain⟨ei0,ach⟩:∃ ei,T.get e=some ei:=by obtain⟨⟨ei,kD,_⟩,_⟩:=he;exact⟨ei,kD⟩
   obtain⟨h1,h2⟩:=uk hT he m 0 xs ys r lx ly tK vG (by
    obtain⟨⟨ei,kD,SQ⟩,_⟩:=he;simp only[kD,SQ]at zc;simpa using zc) (by rw[Nat.zero_add];exact hl) (by rw[Nat.zero_add,<- S1];exact hl) (by simpa using hs)
   obtain⟨⟨ei,kD,SQ⟩,_⟩:=he;obtain⟨ie,_,nX,_,fJ,_⟩:=hT e ei kD;have EV:P.cellsOf e=c+1:=by simp[Program.cellsOf,nX,<- fJ,SQ]
   refine⟨by rw[run_equalIn_array w N lx ly ib nX,EV,List.range_eq_range'];exact h1,fun em=>?_⟩;rw[Instr.checkKey];simp only[Sem.run_bind,run_underlying ib,Result.andThen_ok];simp only[Std.Legacy.Range.forIn_eq_forIn_range',Std.Legacy.Range.size,Nat.sub_zero,Nat.add_one_sub_one,Nat.div_one];rw[h2 em];rfl
  ·cases h
end
end Go.PX
