import Derived.Test.YtpocldjdlookjaaPxC
import Derived.Deep.AppendSrc
import Derived.ChangeKeysEq
set_option linter.all false
namespace Go.PX
open Go.RowKit
section
variable {σ : Type} {cx : Cx σ} {r : Option Nat} {m : List Nat} {L : Loc} {F : Nat -> Nat} {st : St σ} {a : Act} {w : World}
theorem Good.Fq(hh:Good cx r m L F st a w){id d:Nat}{o0 o:Obj}(S2:¬ pinned d)(h0:get st.heap id=some o0)(nf:aN L id o0){w':World}
  (Nn:w'.os=w.os) (ht:w'.tape=w.tape) (hu:w'.output=w.output) (cU:w'.heap.size=w.heap.size) (hk:∀ b,b≠L.ρ id->w'.heap[b]?=w.heap[b]?)
  (qT:∀ ds,w.heap[L.ρ id]?≠some (.deferred ds)) (mL:∀ lp,w.heap[L.ρ id]?≠some (.loop lp))
  (ho:bG cx.yv ⟨fun i=>if i=d then L.ρ id else L.ρ i,fun i=>if i=d then L.κ id else L.κ i⟩ F w' d o) :
  Good cx r m ⟨fun i=>if i=d then L.ρ id else L.ρ i,fun i=>if i=d then L.κ id else L.κ i⟩ F (bE (bE st (.del id)) (.new d o)) a w'/\Tr F w F w':=by
 obtain⟨hF,I3⟩:=hh.heap.own id o0 h0 nf;have tr:Tr F w F w':=.gV Nn ht hu (by omega) (fun _=>Nat.le_refl _) hh.heap.fresh fun b _ Re=>hk b (by rintro rfl;omega);have hC:∀ c,cx.C st.s c->w'.heap[c]?=w.heap[c]?:=fun c hc=>hk c (by rintro rfl;exact I3 hc);have hg:∀ i o',get (bE (bE st (.del id)) (.new d o)).heap i=some o'->(i=d/\o'=o)\/(i≠d/\i≠id /\ ∃ o1,get st.heap i=some o1/\o'=Obj.az (aQ d) o1):=by
  intro i o' hi;simp only[bE,aF,cH,bl,c0]at hi;split at hi
  ·rename_i e;left;exact⟨e,by cases hi;rfl⟩
  ·rename_i e
   right;by_cases dZ:i=id
   ·simp[dZ]at hi
   ·refine⟨e,dZ,?_⟩
    cases h1:get st.heap i with
    | none=>simp[h1]at hi
    | some o1=>simp[h1,dZ]at hi;exact⟨o1,rfl,hi.symm⟩
 have key:∀ i o',get (bE (bE st (.del id)) (.new d o)).heap i=some o'->i≠d->aN ⟨fun i=>if i=d then L.ρ id else L.ρ i,fun i=>if i=d then L.κ id else L.κ i⟩ i o'->i≠id /\ ∃ o1,get st.heap i=some o1/\aN L i o1:=by
  intro i o' hi eA hb;rcases hg i o' hi with⟨rfl,rfl⟩|⟨_,dZ,o1,h1,rfl⟩
  ·exact absurd rfl eA
  ·refine⟨dZ,o1,h1,?_⟩
   have:=(dA _ d i o1).1 hb;cases o1<;>simp_all[aN]
 refine⟨⟨⟨cx.eV hh.heap.hg tr (fun c hc=>hh.heap.fresh c (by omega)) fun c hc=>⟨hC c hc,rfl⟩,fun c hc=>by rw[cU];exact hh.heap.iW c hc,fun c hc=>hh.heap.fresh c (by omega),?_,?_,?_⟩,?_,hh.sI,?_,hh.uy,?_,fun i hi=>?_,hh.sD⟩,tr⟩
 ·intro i o' hi
  rcases hg i o' hi with⟨rfl,rfl⟩|⟨eA,dZ,o1,h1,rfl⟩
  ·exact ho
  ·refine bG.mono (L:=L) tr i _ (fun j hj=>?_) ⟨by simp[eA],by simp[eA]⟩ (fun hb=>hk _ ?_) (bG.kill d i o1 (hh.heap.obj i o1 h1))
   ·have:j≠d:=by rintro rfl;exact ny j o1 hj
    simp[this]
   ·intro e
    exact dZ (hh.heap.inj i id o1 o0 h1 h0 ((dA L d i o1).1 hb) nf e)
 ·intro i o' hi hb
  by_cases kS:i=d
  ·subst kS;simp only[if_true];exact⟨hF,I3⟩
  ·obtain⟨_,o1,h1,n9⟩:=key i o' hi kS hb
   simp only[kS,if_false];exact hh.heap.own i o1 h1 n9
 ·intro i j o' p hi hj kj gJ e
  by_cases kS:i=d<;>by_cases CR:j=d
  ·rw[kS,CR]
  ·exfalso
   obtain⟨Ps,p1,zO,CI⟩:=key j p hj CR gJ;simp[kS,CR]at e;exact Ps (hh.heap.inj j id p1 o0 zO h0 CI nf e.symm)
  ·exfalso
   obtain⟨Po,p1,zO,CI⟩:=key i o' hi kS kj;simp[kS,CR]at e;exact Po (hh.heap.inj i id p1 o0 zO h0 CI nf e)
  ·obtain⟨_,o1,LD,n9⟩:=key i o' hi kS kj
   obtain⟨_,p1,zO,CI⟩:=key j p hj CR gJ;simp only[kS,CR,if_false]at e;exact hh.heap.inj i j o1 p1 LD zO n9 CI e
 ·intro s v hs
  simp only[bE,bl]at hs
  cases h1:get st.env s with
  | none=>simp[h1]at hs
  | some v0=>
   simp[h1]at hs;subst hs;obtain⟨x,hx,hr⟩:=hh.env s v0 h1;refine⟨x,hx,a6.mono tr _ x (fun j hj=>?_) (a6.kill d v0 x hr)⟩;have:j≠d:=by rintro rfl;exact jY j v0 hj
   simp[this]
 ·intro b hb
  have:=(hh.oe b hb).1;exact⟨by rw[hk b (by rintro rfl;exact qT _ this)];exact this,(hh.oe b hb).2⟩
 ·intro l hl
  obtain⟨lp,zN⟩:=hh.lk l hl;exact⟨lp,⟨by rw[hk l (by rintro rfl;exact mL _ zN.1.1)];exact zN.1.1,zN.1.2⟩,zN.2⟩
 ·have:i≠d:=by rintro rfl;exact S2 hi
  simp only[this,if_false];exact hh.lG i hi
end
theorem aC.gU(c:aC):c.len=c.aU.length:=by
 cases c<;>simp[aC.len,aC.aU,cB]
theorem aC.nE(c:aC)(off n:Nat):(c.part off n).aU=(c.aU.drop off).take n:=by
 cases c<;>simp[aC.part,aC.aU,cB,List.map_drop,List.map_take]
theorem aC.wZ(c x:aC):(c.app x).aU=c.aU++x.aU:=by
 cases c<;>cases x<;>simp[aC.app,aC.aU,cB]
theorem fR{α:Type}{sz:Nat}:∀ {es:List (List α)} (n:Nat),cJ sz es->(es.take n).flatten=es.flatten.take (n*sz)
 | [],n,_=>by simp
 | f::es,0,_=>by simp
 | f::es,n+1,h=>by
  have hf:=h f (List.mem_cons_self ..);have e1:(n+1)*sz=f.length+n*sz:=by rw[Nat.succ_mul];omega
  rw[List.take_succ_cons,List.flatten_cons,List.flatten_cons,fR n (fun e he=>h e (List.mem_cons_of_mem _ he)),e1,List.take_length_add_append]
theorem l6{α:Type}{sz:Nat}:∀ {es:List (List α)} (n:Nat),cJ sz es->(es.drop n).flatten=es.flatten.drop (n*sz)
 | [],n,_=>by simp
 | f::es,0,_=>by simp
 | f::es,n+1,h=>by
  have hf:=h f (List.mem_cons_self ..);have e1:(n+1)*sz=f.length+n*sz:=by rw[Nat.succ_mul];omega
  rw[List.drop_succ_cons,List.flatten_cons,l6 n (fun e he=>h e (List.mem_cons_of_mem _ he)),e1,List.drop_length_add_append]
section
variable {yv : Option Nat} {L : Loc} {F : Nat -> Nat} {w : World}
theorem cF.cells{b off sz:Nat}:∀ {es:List (List D)},cF F w b off sz es -> ∃ l:List Value,aY F w es.flatten l/\l.length=es.length*sz /\ ∀ (j:Nat) v,l[j]?=some v->w.cell? ⟨b,off+j,none⟩=some v:=by
 intro es;have at_:∀ {cs:List D} {o:Nat},cf F w b o cs -> ∃ l:List Value,aY F w cs l /\ ∀ (j:Nat) v,l[j]?=some v->w.cell? ⟨b,o+j,none⟩=some v:=by
  intro cs
  induction cs with
  | nil=>intro o _;exact⟨[],rfl,by simp⟩
  | cons c r ih=>
   intro o h;obtain⟨_,⟨x,hx,hc⟩,hr⟩:=h;obtain⟨l,hl,hj⟩:=ih hr;refine⟨x::l,⟨x,l,rfl,hc,hl⟩,fun j v hv=>?_⟩
   cases j with
   | zero=>simp at hv;subst hv;exact hx
   | succ j=>
    have:=hj j v (by simpa using hv);rw[Nat.add_assoc,Nat.add_comm 1 j]at this;exact this
 induction es generalizing off with
 | nil=>intro _;exact⟨[],rfl,by simp,by simp⟩
 | cons e r ih=>
  intro h;obtain⟨he,ha,hr⟩:=h;obtain⟨l1,h1,j1⟩:=at_ ha;obtain⟨l2,h2,e2,j2⟩:=ih hr;have e1:=h1.length;refine⟨l1++l2,?_,by simp[e1,e2,he,Nat.succ_mul];omega,fun j v hv=>?_⟩
  ·rw[List.flatten_cons]
   have:=aq.append (yv:=none) (L:=⟨fun _=>0,fun _=>0⟩) (aq.inj.2 h1) (aq.inj.2 h2);rw[<- md]at this;exact aq.inj.1 this
  ·by_cases hj:j<l1.length
   ·rw[List.getElem?_append_left hj]at hv;exact j1 j v hv
   ·rw[List.getElem?_append_right (by omega)]at hv
    have:=j2 _ v hv;have e:off+sz+(j-l1.length)=off+j:=by omega
    rw[e]at this;exact this
theorem pW{σ':Type}{h:av}{s:σ'}{cx:Cx σ'}{hp:av}(hs:cM h hp)(hg:bo cx L F hp s w){v:V}{fs:aC}(hf:oT h v=some fs){y:Value}(hr:a6 cx.yv L F w v y){sz:Nat}(hl:∀ e∈fs.aU,e.length=sz)(cU:0<sz) :
  ∃ (ay:Option Addr) (cap:Nat) (news:List Value),y = .slice ay fs.aU.length cap/\fs.aU.length<=cap/\aq cx.yv L F w fs.aU.flatten news/\news.length=fs.aU.length*sz /\
   (fs.aU = [] \/ ∃ b off,ay=some ⟨b,off,none⟩ /\ ∀ (j:Nat) v,news[j]?=some v->w.cell? ⟨b,off+j,none⟩=some v):=by
 unfold oT at hf;split at hf
 ·rename_i es
  cases hf;obtain⟨a0,len,cap,rfl,hlen,jM,mQ⟩:=hr;have e1:(aC.dd es).aU.length=es.length:=by simp[aC.aU,cB]
  by_cases eA:es = []
  ·subst eA
   refine⟨a0,cap,[],by rw[hlen];rfl,Nat.zero_le _,rfl,by simp[aC.aU,aO],.inl rfl⟩
  ·obtain⟨b,off,TL,rfl,C0,xT⟩:=mQ eA
   have AG:TL=sz:=by
    cases es with
    | nil=>exact absurd rfl eA
    | cons x r=>
     have:=hl (inj x) (by simp[aC.aU,aO]);rw[dI]at this;exact xT.1.symm.trans this
   subst AG;obtain⟨l,h1,h2,h3⟩:=cF.cells xT;refine⟨_,cap,l,by rw[hlen,e1],by rw[e1,<- hlen];exact jM,?_,by rw[h2,e1],.inr ⟨b,off,rfl,h3⟩⟩;show aq _ _ _ _ (aO es).flatten l;rw[cI];exact aq.inj.2 h1
 ·cases hf
  have hr:y = .slice none 0 0:=hr;exact⟨none,0,[],hr,Nat.le_refl _,rfl,by simp[aC.aU,aO],.inl rfl⟩
 ·rename_i id z off n
  split at hf;case h_2=>cases hf
  rename_i m es mQ;split at hf;case h_2=>cases hf
  rename_i BA Ap;cases hf;have BA:=dc BA;have Ap:=lg Ap;subst BA;rw[aC.gU]at Ap;obtain⟨a0,cap,rfl,jM,RI,hb⟩:=hr;have e1:(es.part off n).aU.length=n:=by rw[aC.nE];simp;omega
  obtain⟨_,fY,fe⟩:=hg.obj id _ (hs _ _ mQ);by_cases ni:n=0
  ·subst ni
   have e0:(es.part off 0).aU = []:=by rw[aC.nE];simp
   exact⟨a0,cap,[],by rw[e0];rfl,by rw[e0];exact Nat.zero_le _,by rw[e0];rfl,by rw[e0];simp,.inl e0⟩
  ·rcases hb with⟨h0,_⟩|⟨rfl,hb⟩
   ·omega
   have PD:m=sz:=by
    have hx:off<es.aU.length:=by omega
    have:=hl es.aU[off] (by rw[aC.nE];exact List.mem_iff_getElem?.2 ⟨0,by rw[List.getElem?_take_of_lt (by omega),List.getElem?_drop];simp[hx]⟩);rw[<- this];exact(fY _ (List.getElem_mem _)).symm
   subst PD;rcases fe with⟨he,_⟩|⟨l,E,jz,hk,EO,AF⟩
   ·rw[he]at Ap;simp at Ap;omega
   have rP:(es.part off n).aU.flatten=(es.aU.flatten.drop (off*m)).take (n*m):=by
    rw[aC.nE,fR _ (fun e he=>fY e (List.mem_of_mem_drop he)),l6 _ fY]
   have hle:(off+n)*m<=es.aU.length*m:=Nat.mul_le_mul_right _ Ap;rw[Nat.add_mul]at hle;refine⟨_,cap,((l.toList.take (es.aU.length*m)).drop (off*m)).take (n*m),by rw[e1],by rw[e1];exact jM,by rw[rP];exact(AF.drop _).take _,?_,.inr ⟨_,_,rfl,fun j v hv=>?_⟩⟩
   ·rw[e1];simp;omega
   ·rw[cell_of_row _ _ _ _ _ _ jz]
    have hj:j<n*m:=by have:=(List.getElem?_eq_some_iff.1 hv).1;simp at this;omega
    rw[List.getElem?_take_of_lt hj,List.getElem?_drop,List.getElem?_take_of_lt (by omega)]at hv;simpa using hv
 ·cases hf
end
section
variable {P : Program} {T : dM}
theorem run_append_room{w:World}(t tx ty e:TypeId){i:TypeInfo}(ht:P.underlying t=some (.slice e))(hi:P.info? e=some i){b off sLen sCap:Nat}{x:Value}{n:Nat}{news:List Value}(hs:Src P i.size tx x n news w)
  (oC:sLen+n<=sCap) {c:Array Value} {E:TypeId} (hb:w.heap[b]?=some (.cells c E (0,0))) (hc:off+sCap*i.size<=c.size) :
  (Builtin.append_ #[t,tx] ty #[.slice (some ⟨b,off,none⟩) sLen sCap,x]).run P w =
   .ok (.slice (some ⟨b,off,none⟩) (sLen+n) sCap) (w.setRow b (c.toList.take (off+sLen*i.size)++news++c.toList.drop (off+sLen*i.size+news.length)).toArray):=by
 have hle:(sLen+n)*i.size<=sCap*i.size:=Nat.mul_le_mul_right _ oC;rw[Nat.add_mul]at hle;have kX:=run_storeCells_at (P:=P) b (off+sLen*i.size) E news 0 c w hb (by rw[hs.newsLen];omega) hs.one;simp only[Nat.add_zero]at kX;rcases hs.kind with⟨e',hk⟩|hk<;>simp[Builtin.append_,run_underlying ht,run_underlying hk,sizeOf,typeInfo,hi,hs.len,oC,hs.cells,eF,kX]
theorem ji{w:World}(t tx ty e:TypeId){i:TypeInfo}(ht:P.underlying t=some (.slice e))(hi:P.info? e=some i){base:Option Addr}{sLen sCap:Nat}{x:Value}(hs:Src P i.size tx x 0 [] w)
  (oC:sLen<=sCap) :
  (Builtin.append_ #[t,tx] ty #[.slice base sLen sCap,x]).run P w = .ok (.slice base sLen sCap) w:=by
 cases base<;>rcases hs.kind with⟨e',hk⟩|hk<;>simp[Builtin.append_,run_underlying ht,run_underlying hk,sizeOf,typeInfo,hi,hs.len,oC,hs.cells,storeCells]
theorem A8{w:World}{size:Nat}{u el:TypeId}(hu:P.underlying u=some (.slice el)){ay:Option Addr}{n cap:Nat}{news:List Value}(hlen:news.length=n*size)
  (hc:n=0 \/ ∃ b off,ay=some ⟨b,off,none⟩ /\ ∀ (j:Nat) v,news[j]?=some v->w.cell? ⟨b,off+j,none⟩=some v) (h1:∀ v∈news,v.oneCell'=true) :
  Src P size u (.slice ay n cap) n news w:=by
 rcases hc with rfl|⟨b,off,rfl,hj⟩
 ·have hn:news = []:=List.length_eq_zero_iff.1 (by simpa using hlen)
  subst hn
  cases ay with
  | none=>exact Src.ofNil w hu cap
  | some ad=>exact Src.ofSlice w hu ad 0 cap [] (by simp) (by simp) (fun _ h=>by cases h)
 ·exact Src.ofSlice w hu _ n cap news hlen (fun j v hv=>by rw[eF];exact hj j v hv) h1
variable {e : Env} {h : av} {dst : Option Nat} {K : List Wr -> Prop} {ty : TypeId} {pos : String} {after : Array Edge} {guard : Option (Nat × Bool)}
theorem rJ{σ:Type}{cx:Cx σ}{r:Option Nat}{m:List Nat}{L:Loc}{F:Nat->Nat}{st:St σ}{a:Act}{w:World}(hg:Good cx r m L F st a w){d:Nat}(hd:d<a.tmps.size)
  {t tx el:TypeId} {ie:TypeInfo} {z:Value} (hu:P.underlying t=some (.slice el)) (kS:P.info? el=some ie) (hz:ie.zero=some z) (H9:z.cells.size=ie.size) (cU:0<ie.size) (Bz:0<ie.bytes)
  {base:Option Addr} {len cap n:Nat} {olds news:List Value} {x:Value} (hold:∀ w':World,(∀ y,w'.cell? y=w.cell? y)->(Builtin.firstCells ie.size len (.slice base len cap)).run P w' = .ok olds.toArray w')
  (BH:olds.length=len*ie.size) (hs:Src P ie.size tx x n news w) (Ey:cap<len+n) (jL:(len+n)*ie.bytes<=140737488355328)
  {es:aC} (sn:es.aU.length=len+n) (fY:cJ ie.size es.aU) (hr:aq cx.yv L F w es.aU.flatten (olds++news)) (hf:¬ bF es.aU.flatten d) :
  ∃ v w' L' F',(Builtin.append_ #[t,tx] ty #[.slice base len cap,x]).run P w = .ok v w'/\Good cx r m L' F' (aK st [.new d (.arr ie.size es),.set d (.sl d ie.size 0 (len+n))]) (a.put (some d) v) w'/\Tr F w F' w':=by
 have mL:=hs.newsLen;have R6:((len+n:Nat):Int)<=9223372036854775807:=by
  have:len+n<=(len+n)*ie.bytes:=Nat.le_mul_of_pos_right _ Bz;omega
 have bA:=run_append_grow_src (P:=P) w t tx ty el ie z hu kS hz base len cap olds (hold w.drew fun _=>rfl) x n news hs Ey R6 (growslice_fits Ey jL);generalize hgc:grownCap w (len+n) cap el=nc at bA;have PE:len+n<=nc:=by rw[<- hgc];exact grownCap_ge _ _ _ _
 generalize hcells:(olds++news).toArray++Builtin.zeroCells z.cells (nc-(len+n))=c' at bA;have hmul:(len+n)*ie.size=len*ie.size+n*ie.size:=Nat.add_mul _ _ _;have Aq:c'.toList.take ((len+n)*ie.size)=olds++news:=by
  rw[<- hcells];have:(olds++news).length=(len+n)*ie.size:=by simp[BH,mL,hmul]
  rw[<- this];simp only[Array.toList_append];exact List.take_left' rfl
 have o8:c'.size=nc*ie.size:=by
  rw[<- hcells];have h1:nc=(len+n)+(nc-(len+n)):=by omega
  have h2:nc*ie.size=(len+n)*ie.size+(nc-(len+n))*ie.size:=by
   conv=>lhs;rw[h1]
   rw[Nat.add_mul]
  rw[h2];simp[Builtin.zeroCells,BH,mL,H9,hmul]
 have IY:Good cx r m L F st a w.drew:=hg.same rfl rfl rfl rfl;have FA:Tr F w F w.drew:=Tr.drew _;have vh:Tr F w.drew F (w.drew.alloc (.cells c' el)):=Tr.alloc IY.heap.fresh _;have hle:(len+n)*ie.size<=nc*ie.size:=Nat.mul_le_mul_right _ PE;have oz:=IY.new d c'.size (.arr ie.size es) (.cells c' el) (IY.eh hd) ⟨cU,fY,.inr ⟨c',el,(by show(w.drew.alloc _).heap[if d=d then w.drew.heap.size else L.ρ d]?=_;rw[if_pos rfl];exact heap_alloc_new w.drew _),(by simp),(by rw[sn,o8];exact hle),(by
  rw[sn,Aq];exact aq.jZ (L:=L) (Tr.trans FA vh) (fun i hi=>by simp[hi]) hf hr)⟩⟩
 refine⟨_,_,_,F,bA,oz.set (v:=.sl d ie.size 0 (len+n)) hd ⟨_,_,rfl,PE,cU,.inr ⟨(by simp),(by simp[o8])⟩⟩,Tr.trans FA vh⟩
theorem dj(s:ByteArray):(bR s).length=s.size:=byteCells_length s
theorem mG(a b:ByteArray):bR (a++b)=bR a++bR b:=by
 simp[bR]
theorem Iw(hT:bj P T){t el:TypeId}{ei:oQ}(h:Iv T t=some (el,ei)):P.underlying t=some (.slice el)/\T.get el=some ei/\ff T t=some ei:=by
 unfold Iv at h;split at h;case h_2=>cases h
 rename_i ti ht;split at h;case h_2=>cases h
 rename_i e he;split at h;case h_2=>cases h
 rename_i RZ iB;cases h;obtain⟨de,fV,dC⟩:=eb hT ht;rw[he]at dC;have hs:ff T t=some ei:=by simp[ff,ht,he,iB]
 refine⟨?_,iB,hs⟩;have:=et dC.symm;rw[fV,this]
theorem GZ(hT:bj P T){t:TypeId}(h:isStr T t=true):P.underlying t=some .string:=by
 unfold isStr at h;split at h;case h_2=>cases h
 rename_i ti ht;split at h;case h_2=>cases h
 rename_i he;obtain⟨de,fV,dC⟩:=eb hT ht;rw[he]at dC;have:=gT dC.symm;subst this;exact fV
theorem y2(hT:bj P T){u:TypeId}{v:V}{s:ByteArray}(hn:AQ T h u v=some s){σ:Type}{cx:Cx σ}{r:Option Nat}{m:List Nat}{L:Loc}{F:Nat->Nat}{st:St σ}{a:Act}{w:World}
  (hh:cM h st.heap) (hg:Good cx r m L F st a w) {x:Value} (hx:a6 cx.yv L F w v x):Src P 1 u x s.size (bR s) w:=by
 have Jd:∀ {s:ByteArray},(match ff T u with
  | some _=>match oT h v with
   | some (.dd [[.int .u8 c]])=>match decide (0<=c),decide (c<256) with
    | true,true=>some (⟨#[UInt8.ofNat c.toNat]⟩:ByteArray)
    | _,_=>none
   | _=>none
  | none=>none)=some s->Src P 1 u x s.size (bR s) w:=by
  intro s hn;split at hn;case h_2=>cases hn
  rename_i ui J0;obtain⟨R0,GS,_⟩:=jC hT J0;split at hn;case h_2=>cases hn
  rename_i c rQ;split at hn;case h_2=>cases hn
  rename_i h0 h1;cases hn;have h0:=of_decide_eq_true h0;have h1:=of_decide_eq_true h1;obtain⟨ay,cap,news,GX,jM,FV,mL,kx⟩:=pW hh hg.heap rQ hx (sz:=1) (fun e he=>by
   simp only[aC.aU,aO,inj,List.mem_singleton]at he;subst he;rfl) Nat.one_pos
  obtain⟨y,l',rfl,hy,jz⟩:=FV;have hy:y = .int .u8 c:=hy;have jz:l' = []:=jz;subst hy jz;have he:bR (⟨#[UInt8.ofNat c.toNat]⟩:ByteArray) = [.int .u8 c]:=by
   have:((UInt8.ofNat c.toNat).toNat:Int)=c:=by
    rw[UInt8.toNat_ofNat_of_lt' (by show c.toNat<256;omega)];omega
   show [Value.int .u8 ((UInt8.ofNat c.toNat).toNat:Int)]=_;rw[this]
  rw[he,GX];exact A8 GS (by simpa using mL) (kx.imp (fun h=>by cases h) fun h=>h) (fun v hv=>by
   rw[List.mem_singleton]at hv;subst hv;rfl)
 unfold AQ at hn;split at hn
 ·rename_i s'
  split at hn;case h_2=>cases hn
  rename_i hs;cases hn;have hx:x = .string s:=hx;subst hx;exact Src.ofString w (GZ hT hs) s
 ·exact Jd hn
theorem Ha(hT:bj P T){args:Array Operand}{tys:Array TypeId}{x y:Operand}{t u:TypeId}(cr:args.toList = [x,y])(yL:tys.toList = [t,u])(hk:Ir T e h dst t u x y K) :
  ∃ ws,K ws/\Out P e h ⟨dst,.call ⟨.builtin .append,args,tys⟩,ty,pos,after,guard⟩ ws:=by
 unfold Ir at hk;split at hk;case h_2=>exact hk.elim
 rename_i v yv el ei d hx hy iB;split at hk;case h_2=>exact hk.elim
 rename_i s hs;have fK:=bK hk;clear hk;obtain⟨e7,hk⟩:=fK;simp only[Bool.and_eq_true]at e7;obtain⟨e7,qh,n9⟩:=e7;have qh:=dc qh;have n9:=dc n9;obtain⟨sw,sk,_⟩:=Iw hT iB;obtain⟨ie,z,kS,hz,cU,Bz,ea,o7,H9⟩:=pT hT sk e7;have vp:ie.size=1:=by omega
 have vq:ie.bytes=1:=by omega
 have bA:∀ (a:Act) (w:World) (b:Option Addr) (l c:Nat) (v:Value) (w':World),a.eval x = .slice b l c->(Builtin.append_ #[t,u] ty #[.slice b l c,a.eval y]).run P w = .ok v w' ->
   (execOp a.eval ⟨some d,.call ⟨.builtin .append,args,tys⟩,ty,pos,after,guard⟩).run P w = .ok (.value v) w':=fun a w b l c v w' cP hv=>by
  have h1:args.map a.eval = #[.slice b l c,a.eval y]:=by
   apply Array.ext';simp[cr,cP]
  have h2:tys = #[t,u]:=by
   apply Array.ext';simp[yL]
  simp[execOp,resolve,invoke,builtin,h1,h2,hv]
 have grow:∀ {σ:Type} {cx:Cx σ} {r:Option Nat} {m:List Nat} {L:Loc} {F:Nat->Nat} {st:St σ} {a:Act} {w:World},Good cx r m L F st a w->d<a.tmps.size -> ∀ (base:Option Addr) (cap:Nat) (b:ByteArray),
   a.eval x = .slice base b.size cap->(Builtin.firstCells ie.size b.size (.slice base b.size cap)).run P w.drew = .ok (bR b).toArray w.drew->Src P 1 u (a.eval y) s.size (bR s) w->cap<b.size+s.size->b.size+s.size<=140737488355328 ->
   ∃ v w' L' F',(execOp a.eval ⟨some d,.call ⟨.builtin .append,args,tys⟩,ty,pos,after,guard⟩).run P w = .ok (.value v) w'/\Good cx r m L' F' (aK st [.new d (.buf el (b++s)),.set d (.sl d 1 0 (b++s).size)]) (a.put (some d) v) w'/\Tr F w F' w':=by
  intro σ cx r m L F st a w hg hd base cap b cP hold pb Ey jL;have hr:=run_append_grow_src (P:=P) w t u ty el ie z sw kS hz base b.size cap (bR b) hold (a.eval y) s.size (bR s) (by rw[vp];exact pb) Ey (by omega) (growslice_fits Ey (by rw[vq];omega));generalize hgc:grownCap w (b.size+s.size) cap el=nc at hr;have PE:b.size+s.size<=nc:=by rw[<- hgc];exact grownCap_ge _ _ _ _
  generalize hcells:(bR b++bR s).toArray++Builtin.zeroCells z.cells (nc-(b.size+s.size))=c' at hr;have DB:(b++s).size=b.size+s.size:=by simp
  have hlen:(bR b++bR s).length=b.size+s.size:=by rw[List.length_append,dj,dj]
  have Aq:c'.toList.take (b++s).size=bR (b++s):=by
   rw[<- hcells,DB,mG,<- hlen];simp only[Array.toList_append];exact List.take_left' rfl
  have o8:c'.size=nc:=by
   rw[<- hcells];have:z.cells.size=1:=by omega
   simp only[Array.size_append,List.size_toArray,hlen,size_zeroCells,this];omega
  have IY:Good cx r m L F st a w.drew:=hg.same rfl rfl rfl rfl;have FA:Tr F w F w.drew:=Tr.drew _;have vh:Tr F w.drew F (w.drew.alloc (.cells c' el)):=Tr.alloc IY.heap.fresh _;have oz:=IY.new d c'.size (.buf el (b++s)) (.cells c' el) (IY.eh hd) ⟨c',(by show(w.drew.alloc _).heap[if d=d then w.drew.heap.size else L.ρ d]?=_;rw[if_pos rfl];exact heap_alloc_new w.drew _),(by simp),(by omega),Aq⟩;refine⟨_,_,_,F,bA a w base _ cap _ _ cP hr,oz.set (v:=.sl d 1 0 (b++s).size) hd ⟨some ⟨w.drew.heap.size,0,none⟩,nc,(by rw[DB];rfl),(by omega),Nat.one_pos,.inr ⟨(by simp),(by simp[o8])⟩⟩,Tr.trans FA vh⟩
 split at hk
 ·have fK:=bK hk
  clear hk;obtain⟨hc,hk⟩:=fK;simp only[Bool.and_eq_true]at hc;have h0:=of_decide_eq_true hc.1;have jL:=of_decide_eq_true hc.2;refine⟨_,hk,?_⟩;intro σ cx r m L F st a w he hh hg hd;have cP:a.eval x = .slice none 0 0:=hg.aM (aG he hx);obtain⟨v,w',L',F',h1,h2,h3⟩:=grow hg (hd d rfl) none 0 ByteArray.empty cP (by
   have:bR ByteArray.empty = []:=rfl;rw[this];exact run_firstCells_none _ _ 0 0 0) (y2 hT hs hh hg (hg.aM (aG he hy))) (by simp;omega) (by simp;omega)
  have e0:ByteArray.empty++s=s:=by simp
  rw[e0]at h2;exact⟨v,w',_,h1,.inl rfl,L',F',h2,h3⟩
 ·rename_i id n off len
  split at hk;case h_2=>exact hk.elim
  rename_i tb b hb;obtain⟨hc,dC⟩:=bK hk;clear hk;simp only[Bool.and_eq_true]at hc;obtain⟨Ap,hk⟩:=bK dC;clear dC;simp only[Bool.and_eq_true]at Ap;have FU:=dc hc.1;have qg:=dc hc.2.1;have pF:=dc hc.2.2;have hlen:=of_decide_eq_true Ap.1;have yE:=of_decide_eq_true Ap.2.1;have jL:=of_decide_eq_true Ap.2.2;subst FU qg hlen pF;refine⟨_,hk,?_⟩;intro σ cx r m L F st a w he hh hg hd;obtain⟨base,cap,cP,Nk,_,Na⟩:=hg.aM (aG he hx);rcases Na with⟨RI,_⟩|⟨rfl,Na⟩
  ·omega
  rw[Nat.zero_add,Nat.mul_one]at Na;rw[Nat.zero_mul]at cP;have h0:=hh _ _ hb;obtain⟨c,BA,oy,FM,Ro⟩:=hg.heap.obj id _ h0;have pb:=y2 hT hs hh hg (hg.aM (aG he hy));have DB:(b++s).size=b.size+s.size:=by simp
  have Sy:∀ w':World,(∀ x,w'.cell? x=w.cell? x)->(Builtin.firstCells ie.size b.size (.slice (some ⟨L.ρ id,0,none⟩) b.size cap)).run P w' = .ok (bR b).toArray w':=fun w' Qb=>by
   rw[vp];refine run_firstCells_some w' 1 b.size _ b.size cap _ (by rw[dj];omega) fun j v hv=>?_;have hj:j<b.size:=by have:=(List.getElem?_eq_some_iff.1 hv).1;rwa [dj]at this
   rw[eF,Qb,cell_of_row _ _ _ _ _ _ BA,Nat.zero_add,<- Array.getElem?_toList,<- hv,<- Ro,List.getElem?_take_of_lt hj]
  by_cases oC:b.size+s.size<=cap
  ·have hr:=run_append_room (P:=P) (ty:=ty) t u tb sw kS (by rw[vp];exact pb) oC (b:=L.ρ id) (off:=0) BA (by rw[vp];omega)
   simp only[vp,Nat.mul_one,Nat.zero_add]at hr;have hL:=Array.length_toList (xs:=c);have GP:=fH (cs:=c.toList) (l:=bR s) (off:=b.size) (by rw[dj];omega);generalize sR:(c.toList.take b.size++bR s++c.toList.drop (b.size+(bR s).length)).toArray=c' at hr;have ce:c'.toList=c.toList.take b.size++bR s++c.toList.drop (b.size+(bR s).length):=by rw[<- sR]
   have vo:c'.size=c.size:=by rw[<- ce]at GP;simpa using GP
   obtain⟨g1,g2⟩:=hg.Fq (d:=d) (o:=.buf tb (b++s)) (hg.eh (hd d rfl)) h0 trivial (w':=w.setRow (L.ρ id) c') rfl rfl rfl (size_setRow _ _ _) (fun b hb=>setRow_other _ _ _ _ hb)
    (by rw[BA];intro ds e;cases e) (by rw[BA];intro lp e;cases e)
    ⟨c',(by show(w.setRow _ c').heap[if d=d then L.ρ id else L.ρ d]?=_;rw[if_pos rfl];exact setRow_heap _ _ _ _ _ _ BA),(by rw[vo];simpa using oy),(by omega),(by
     rw[ce,Ro,mG,DB];have e1:b.size+s.size=(bR b++bR s).length:=by rw[List.length_append,dj,dj]
     rw[e1,List.take_left'];rfl)⟩
   exact⟨_,_,_,bA a w _ b.size cap _ _ cP hr,.inl rfl,_,F,g1.set (v:=.sl d 1 0 (b++s).size) (hd d rfl) ⟨_,_,(by rw[DB]),(by omega),Nat.one_pos,.inr ⟨(by simp),(by simp;exact Na)⟩⟩,g2⟩
  ·obtain⟨v,w',L',F',h1,h2,h3⟩:=grow (hg.del id) (hd d rfl) _ cap b cP (Sy w.drew fun _=>rfl) pb (by omega) jL
   exact⟨v,w',_,h1,.inl rfl,L',F',h2,h3⟩
 ·exact hk.elim
theorem AT(hT:bj P T){args:Array Operand}{tys:Array TypeId}(hk:dW T e h dst .append args tys K):∃ ws,K ws/\Out P e h ⟨dst,.call ⟨.builtin .append,args,tys⟩,ty,pos,after,guard⟩ ws:=by
 simp only[dW]at hk;split at hk;case h_2=>exact hk.elim
 rename_i x y t u cr yL;split at hk
 ·exact Ha hT cr yL hk
 split at hk;case h_2=>exact hk.elim
 rename_i ui J0;replace hk:=Ci hk;unfold tk at hk;split at hk;case h_2=>exact hk.elim
 rename_i v uv ei d hx hy iB;split at hk;case h_2=>exact hk.elim
 rename_i fs rQ;obtain⟨e7,hk⟩:=bK hk;obtain⟨el,sw,sk⟩:=jC hT iB;obtain⟨R0,GS,_⟩:=jC hT J0;obtain⟨ie,z,kS,hz,cU,Bz,ea,o7,H9⟩:=pT hT sk e7;have bA:∀ (a:Act) (w:World) (b:Option Addr) (l c:Nat) (v:Value) (w':World),a.eval x = .slice b l c->(Builtin.append_ #[t,u] ty #[.slice b l c,a.eval y]).run P w = .ok v w' ->
   (execOp a.eval ⟨some d,.call ⟨.builtin .append,args,tys⟩,ty,pos,after,guard⟩).run P w = .ok (.value v) w':=fun a w b l c v w' cP hv=>by
  have h1:args.map a.eval = #[.slice b l c,a.eval y]:=by
   apply Array.ext';simp[cr,cP]
  have h2:tys = #[t,u]:=by
   apply Array.ext';simp[yL]
  simp[execOp,resolve,invoke,builtin,h1,h2,hv]
 unfold s8 at hk;split at hk
 ·obtain⟨hc,hk⟩:=bK hk
  simp only[Bool.and_eq_true]at hc;obtain⟨IV,dB⟩:=hc;obtain⟨jL,hk⟩:=bK hk;have jL:=of_decide_eq_true jL;refine⟨_,hk,?_⟩;intro σ cx r m L F st a w he hh hg hd;have cP:a.eval x = .slice none 0 0:=hg.aM (aG he hx);have tU:=w9 IV;obtain⟨ay,cap,news,GX,jM,FV,mL,kx⟩:=pW hh hg.heap rQ (hg.aM (aG he hy)) (fun e he=>(tU e he).1) cU;have h1:=FV.one (e9 fun e he=>(tU e he).2);have pb:Src P ie.size u (a.eval y) fs.aU.length news w:=by
   rw[GX,<- ea];exact A8 GS mL (kx.imp (fun h=>by rw[h];rfl) fun h=>h) h1
  have An:((aC.dd []).app fs).aU=fs.aU:=by rw[aC.wZ];rfl
  have FQ:(aC.dd []).len+fs.len=fs.aU.length:=by rw[aC.gU,aC.gU];simp[aC.aU,aO]
  rw[FQ]at jL;rw[FQ,ea];by_cases h0:fs.aU = []
  ·have ni:fs.aU.length=0:=by rw[h0];rfl
   have GJ:news = []:=List.length_eq_zero_iff.1 (by rw[mL,ni];simp);rw[ni,GJ]at pb;have hr:=ji (P:=P) t u ty el sw kS (base:=none) (sLen:=0) (sCap:=0) pb (Nat.le_refl _);have oz:=hg.lC d ie.size (hg.eh (hd d rfl)) (by rw[<- ea];exact cU) ((aC.dd []).app fs) (by rw[An,h0]);exact⟨_,_,_,bA a w none 0 0 _ _ cP hr,.inl rfl,_,F,oz.set (v:=.sl d ie.size 0 fs.aU.length) (hd d rfl) ⟨none,0,(by rw[ni]),(by rw[ni];exact Nat.le_refl _),(by rw[<- ea];exact cU),.inl ⟨ni,rfl⟩⟩,Tr.refl F w⟩
  ·have yE:0<fs.aU.length:=Nat.pos_of_ne_zero fun e=>h0 (List.length_eq_zero_iff.1 e)
   have:=rJ (P:=P) (ty:=ty) (tx:=u) (x:=a.eval y) hg (hd d rfl) sw kS hz H9 (by omega) (by omega) (base:=none) (len:=0) (cap:=0) (n:=fs.aU.length) (olds:=[]) (news:=news) (fun w' _=>run_firstCells_none w' ie.size 0 0 0) (by simp) pb (by omega) (by rw[Nat.zero_add,<- o7];exact jL)
    (es:=(aC.dd []).app fs) (by rw[An];simp) (by rw[An,<- ea];exact fun e he=>(tU e he).1) (by rw[An];exact FV) (mZ dB)
   obtain⟨v,w',L',F',hv,oz,tr⟩:=this;rw[Nat.zero_add]at oz;exact⟨v,w',_,bA a w none 0 0 v w' cP hv,.inl rfl,L',F',oz,tr⟩
 ·rename_i id n off len _
  split at hk;case h_2=>exact hk.elim
  rename_i mm vS Le;obtain⟨hc,dC⟩:=bK hk;clear hk;simp only[Bool.and_eq_true]at hc;obtain⟨⟨⟨FU,CV⟩,hle⟩,qg⟩:=hc;have FU:=dc FU;have CV:=dc CV;have hle:=lg hle;have qg:=dc qg;rw[aC.gU]at hle;obtain⟨hc,fj⟩:=bK dC;clear dC;simp only[Bool.and_eq_true]at hc;obtain⟨IV,dB⟩:=hc;obtain⟨jL,hk⟩:=bK fj;have jL:=of_decide_eq_true jL;refine⟨_,hk,?_⟩;intro σ cx r m L F st a w he hh hg hd;subst FU qg;rw[CV]at Le;clear CV;obtain⟨base,cap,cP,Nk,_,hb⟩:=hg.aM (aG he hx);have tU:=w9 IV;have h0:=hh _ _ Le;obtain⟨_,fY,fe⟩:=hg.heap.obj id _ h0;obtain⟨ay,Kk,news,GX,K5,FV,mL,kx⟩:=pW hh hg.heap rQ (hg.aM (aG he hy)) (fun e he=>(tU e he).1) cU;have h1:=FV.one (e9 fun e he=>(tU e he).2);have pb:Src P ie.size u (a.eval y) fs.aU.length news w:=by
   rw[GX,<- ea];exact A8 GS mL (kx.imp (fun h=>by rw[h];rfl) fun h=>h) h1
  have sV:(vS.part 0 len).aU=vS.aU.take len:=by rw[aC.nE];rfl
  have LI:(vS.part 0 len).aU.length=len:=by rw[sV];simp;omega
  have An:((vS.part 0 len).app fs).aU=vS.aU.take len++fs.aU:=by rw[aC.wZ,sV]
  have FQ:(vS.part 0 len).len+fs.len=len+fs.aU.length:=by rw[aC.gU,aC.gU,LI]
  have yu:((vS.part 0 len).app fs).aU.length=len+fs.aU.length:=by rw[aC.wZ,List.length_append,LI]
  have I6:cJ ei.size (vS.aU.take len):=fun e he=>fY e (List.mem_of_mem_take he);have yw:cJ ei.size ((vS.part 0 len).app fs).aU:=by
   rw[An];intro e he;rcases List.mem_append.1 he with he|he
   ·exact I6 e he
   ·exact(tU e he).1
  rw[FQ]at jL;rw[FQ];have hold:∃ olds,(∀ w':World,(∀ x,w'.cell? x=w.cell? x)->(Builtin.firstCells ie.size len (.slice base len cap)).run P w' = .ok olds.toArray w')/\aq cx.yv L F w (vS.aU.take len).flatten olds/\olds.length=len*ie.size:=by
   rw[<- ea];by_cases FQ:len=0
   ·subst FQ
    refine⟨[],fun w' _=>?_,by simp[aq],by simp⟩
    cases base with
    | none=>exact run_firstCells_none w' _ 0 0 cap
    | some ad=>exact run_firstCells_some w' _ 0 ad 0 cap [] (by simp) (by simp)
   ·rcases hb with⟨h0,_⟩|⟨rfl,hb⟩
    ·omega
    rcases fe with⟨he,_⟩|⟨l,E,jz,fK,EO,AF⟩
    ·rw[he]at hle;simp at hle;omega
    have Px:len*ei.size<=vS.aU.length*ei.size:=Nat.mul_le_mul_right _ hle;refine⟨(l.toList.take (vS.aU.length*ei.size)).take (len*ei.size),fun w' Qb=>run_firstCells_some w' _ len _ len cap _ (by simp;omega) fun j v hv=>?_,by rw[fR _ fY];exact AF.take _,by simp;omega⟩;rw[eF,Qb,cell_of_row _ _ _ _ _ _ jz];have hj:j<len*ei.size:=by have:=(List.getElem?_eq_some_iff.1 hv).1;simp at this;omega
    rw[List.getElem?_take_of_lt hj,List.getElem?_take_of_lt (by omega)]at hv;simpa using hv
  obtain⟨olds,hold,LG,BH⟩:=hold;have HN:aq cx.yv L F w ((vS.part 0 len).app fs).aU.flatten (olds++news):=by
   rw[An,List.flatten_append];exact LG.append FV
  have Es:=hg.del id;by_cases oC:len+fs.aU.length<=cap
  ·rcases hb with⟨n9,mI⟩|⟨rfl,hb⟩
   ·
    have ni:fs.aU.length=0:=by omega
    have GJ:news = []:=List.length_eq_zero_iff.1 (by rw[mL,ni];simp);rw[ni,GJ]at pb;have hr:=ji (P:=P) t u ty el sw kS (base:=base) (sLen:=len) (sCap:=cap) pb Nk;have CK:((vS.part 0 len).app fs).aU = []:=List.length_eq_zero_iff.1 (by rw[yu];omega);have oz:=Es.lC d ei.size (Es.eh (hd d rfl)) cU ((vS.part 0 len).app fs) CK;exact⟨_,_,_,bA a w base len cap _ _ cP hr,.inl rfl,_,F,oz.set (v:=.sl d ei.size 0 (len+fs.aU.length)) (hd d rfl) ⟨base,cap,(by rw[ni];rfl),(by omega),cU,.inl ⟨(by omega),mI⟩⟩,Tr.refl F w⟩
   ·by_cases K4:cap=0
    ·
     have ni:fs.aU.length=0:=by omega
     have GJ:news = []:=List.length_eq_zero_iff.1 (by rw[mL,ni];simp);rw[ni,GJ]at pb;have hr:=ji (P:=P) t u ty el sw kS (base:=some ⟨L.ρ id,0*ei.size,none⟩) (sLen:=len) (sCap:=cap) pb Nk;have CK:((vS.part 0 len).app fs).aU = []:=List.length_eq_zero_iff.1 (by rw[yu];omega);have oz:=Es.lC d ei.size (Es.eh (hd d rfl)) cU ((vS.part 0 len).app fs) CK;exact⟨_,_,_,bA a w _ len cap _ _ cP hr,.inl rfl,_,F,oz.set (v:=.sl d ei.size 0 (len+fs.aU.length)) (hd d rfl) ⟨_,cap,(by rw[ni];rfl),(by omega),cU,.inl ⟨(by omega),K4⟩⟩,Tr.refl F w⟩
    ·
     rw[Nat.zero_add]at hb;have hκ:L.κ id≠0:=by
      have:0<cap*ei.size:=Nat.mul_pos (by omega) cU;omega
     rcases fe with⟨_,EG⟩|⟨l,E,jz,fK,EO,AF⟩
     ·exact absurd EG hκ
     have hr:=run_append_room (P:=P) (ty:=ty) t u el sw kS pb oC (b:=L.ρ id) (off:=0*ei.size) jz (by rw[fK,<- ea];simpa using hb);simp only[Nat.zero_mul,Nat.zero_add]at hr cP;have I9:(len+fs.aU.length)*ei.size<=cap*ei.size:=Nat.mul_le_mul_right _ oC;rw[Nat.add_mul]at I9;have PF:news.length=fs.aU.length*ei.size:=mL;have SO:len*ie.size=len*ei.size:=by rw[ea]
     have hL:=Array.length_toList (xs:=l);have GP:=fH (cs:=l.toList) (l:=news) (off:=len*ie.size) (by omega);generalize sR:(l.toList.take (len*ie.size)++news++l.toList.drop (len*ie.size+news.length)).toArray=c' at hr;have ce:c'.toList=l.toList.take (len*ie.size)++news++l.toList.drop (len*ie.size+news.length):=by rw[<- sR]
     have vo:c'.size=l.size:=by rw[<- ce]at GP;simpa using GP
     have tr:Tr F w F (w.setRow (L.ρ id) c'):=
      .gV rfl rfl rfl (by simp) (fun _=>Nat.le_refl _) hg.heap.fresh fun b _ hF=>setRow_other _ _ _ _ (by rintro rfl;have:=(hg.heap.own id _ h0 hκ).1;omega)
     have SZ:olds=l.toList.take (len*ie.size):=by
      have h2:=hold w (fun _=>rfl);have Px:len*ei.size<=vS.aU.length*ei.size:=Nat.mul_le_mul_right _ hle;have h3:=run_firstCells_some (P:=P) w ie.size len ⟨L.ρ id,0*ei.size,none⟩ len cap (l.toList.take (len*ie.size)) (by rw[List.length_take,Array.length_toList,<- ea];omega) (fun j v hv=>by
       rw[eF,cell_of_row _ _ _ _ _ _ jz];have hj:j<len*ie.size:=by have:=(List.getElem?_eq_some_iff.1 hv).1;rw[List.length_take]at this;omega
       rw[List.getElem?_take_of_lt hj]at hv;simpa using hv)
      rw[h3]at h2;simp only[Result.ok.injEq,and_true]at h2;have:=congrArg Array.toList h2;simpa using this.symm
     obtain⟨g1,g2⟩:=hg.Fq (d:=d) (o:=.arr ei.size ((vS.part 0 len).app fs)) (hg.eh (hd d rfl)) h0 hκ (w':=w.setRow (L.ρ id) c') rfl rfl rfl (size_setRow _ _ _) (fun b hb=>setRow_other _ _ _ _ hb)
      (by rw[jz];intro ds e;cases e) (by rw[jz];intro lp e;cases e)
      ⟨cU,yw,.inr ⟨c',E,(by show(w.setRow _ c').heap[if d=d then L.ρ id else L.ρ d]?=_;rw[if_pos rfl];exact setRow_heap _ _ _ _ _ _ jz),(by rw[vo,fK];simp),(by rw[yu,vo,fK,Nat.add_mul];omega),(by
       rw[yu,ce];have e1:(len+fs.aU.length)*ei.size=(l.toList.take (len*ie.size)++news).length:=by
        rw[List.length_append,List.length_take,PF,Nat.add_mul];omega
       rw[e1,List.take_left',<- SZ]
       ·exact aq.jZ (L:=L) tr (fun i hi=>by simp[hi]) (mZ dB) HN
       ·rfl)⟩⟩
     exact⟨_,_,_,bA a w _ len cap _ _ cP hr,.inl rfl,_,F,g1.set (v:=.sl d ei.size 0 (len+fs.aU.length)) (hd d rfl) ⟨_,_,rfl,oC,cU,.inr ⟨(by simp),(by simp;exact hb)⟩⟩,g2⟩
  ·have:=rJ (P:=P) (ty:=ty) (tx:=u) (x:=a.eval y) Es (hd d rfl) sw kS hz H9 (by omega) (by omega) (base:=base) (len:=len) (cap:=cap) (n:=fs.aU.length) (olds:=olds) (news:=news) hold BH pb (by omega) (by rw[<- o7];exact jL)
    (es:=(vS.part 0 len).app fs) yu (by rw[<- ea];exact yw) HN (mZ dB)
   obtain⟨v,w',L',F',hv,oz,tr⟩:=this;rw[<- ea]at oz;exact⟨v,w',_,bA a w base len cap v w' cP hv,.inl rfl,L',F',oz,tr⟩
 ·exact hk.elim
end
theorem n5:∀ {xs ys:List D} {r:Bool},cd xs ys=some r->xs.length=ys.length
 | [],[],_,_=>rfl
 | [],_::_,_,h=>by simp[cd]at h
 | _::_,[],_,h=>by simp[cd]at h
 | a::xs,b::ys,r,h=>by
  simp only[cd]at h;split at h
  ·rename_i hq;simp[n5 hq]
  ·cases h
theorem nH:∀ {xs ys:List D} {r:Bool} (n:Nat),cd xs ys=some r -> ∃ p q,cd (xs.take n) (ys.take n)=some p/\cd (xs.drop n) (ys.drop n)=some q/\r=(p&&q)
 | xs,ys,r,0,h=>⟨true,r,by simp[cd],h,by simp⟩
 | [],[],r,n+1,h=>⟨true,r,by simp[cd],h,by simp⟩
 | [],_::_,_,_+1,h=>by simp[cd]at h
 | _::_,[],_,_+1,h=>by simp[cd]at h
 | a::xs,b::ys,r,n+1,h=>by
  simp only[cd]at h;split at h;case h_2=>cases h
  rename_i p q hp hq;cases h;obtain⟨p',q',h1,h2,rfl⟩:=nH n hq;exact⟨p&&p',q',by simp[cd,hp,h1],by simpa using h2,by rw[Bool.and_assoc]⟩
theorem A6{a b:D}(h:r8 a b=some true):a=b:=by
 unfold r8 at h;split at h
 ·split at h
  ·rename_i he
   rw[of_decide_eq_true he,of_decide_eq_true (Option.some.inj h)]
  ·cases h
 ·cases h
theorem A5{a b:D}(h:lH a b=some true):a=b:=by
 unfold lH at h;split at h
 ·split at h
  ·rename_i he
   rw[of_decide_eq_true he,of_decide_eq_true (Option.some.inj h)]
  ·cases h
 ·rename_i a b
  cases a<;>cases b<;>simp_all
 ·split at h
  ·rename_i ht
   rw[Nat.eq_of_beq_eq_true ht,A6 h]
  ·cases h
  ·cases h
 ·cases h
theorem uU:∀ {xs ys:List D},cd xs ys=some true->xs=ys
 | [],[],_=>rfl
 | [],_::_,h=>by simp[cd]at h
 | _::_,[],h=>by simp[cd]at h
 | a::xs,b::ys,h=>by
  simp only[cd]at h;split at h;case h_2=>cases h
  rename_i p q hp hq;simp only[Option.some.injEq,Bool.and_eq_true]at h;obtain⟨rfl,rfl⟩:=h;rw[uU hq]
  congr 1
  exact A5 hp
section
variable {P : Program} {T : dM} {F : Nat -> Nat} {w : World}
theorem rn{xs ys:List D}{r:Bool}(hl:xs.length=1)(h:cd xs ys=some r):∃ a b,xs = [a]/\ys = [b]/\lH a b=some r:=by
 have EK:=n5 h;obtain⟨a,rfl⟩:=List.length_eq_one_iff.1 hl;obtain⟨b,rfl⟩:=List.length_eq_one_iff.1 (by rw[<- EK];rfl);refine⟨a,b,rfl,rfl,?_⟩;simp only[cd]at h;split at h
 ·rename_i hp hq
  cases hq;simpa[hp]using h
 ·cases h
theorem wJ{k:IntKind}{a:Int}{b:D}{r:Bool}(h:r8 (.int k a) b=some r):∃ c,b = .int k c/\r=decide (a=c):=by
 unfold r8 at h;split at h
 ·rename_i k1 a1 k2 b1 e
  cases e;split at h
  ·rename_i he
   have:=of_decide_eq_true he;subst this;exact⟨_,rfl,(Option.some.inj h).symm⟩
  ·cases h
 ·cases h
theorem EW{N:Nat}{t:TypeId}{k0 k:IntKind}(fV:P.underlying t=some (.int k0)){a c:Int}:(Op.equalIn (N+1) t (.int k a) (.int k c)).run P w = .ok (decide (a=c)) w:=
 (run_equalIn_int w N t _ _ _ _ fV).trans (by simp;rfl)
theorem jG{N:Nat}{t:TypeId}{dk:TypeDesc}(fV:P.underlying t=some dk)(xk:(∃ k,dk = .int k)\/dk = .bool){x:Value}(em:Bool):(Instr.checkKey em (N+1) t x).run P w = .ok () w:=by
 unfold Instr.checkKey;rcases xk with⟨k,rfl⟩|rfl<;>simp[run_underlying fV]
def wW(P:Program)(T:dM)(F:Nat->Nat)(w:World)(N d:Nat)(t:TypeId)(n:Nat):Prop:=
 (∃ ti,T.get t=some ti/\ti.size=n) /\ ∀ (xs ys:List D) (r:Bool),xs.length=n->n8 T d t xs=true->cd xs ys=some r -> ∀ x y,mV T F w t xs x->mV T F w t ys y ->
  (Op.equalIn N t x y).run P w = .ok r w /\ ∀ em,(Instr.checkKey em N t x).run P w = .ok () w
theorem gh{α:Type}(xs:List α){n c m:Nat}(h:n+c<=m) :
  (((xs.drop n).take (m-n)).take c=(xs.drop n).take c)/\(((xs.drop n).take (m-n)).drop c=(xs.drop (n+c)).take (m-(n+c))):=by
 constructor
 ·rw[List.take_take,Nat.min_eq_left (by omega)]
 ·rw[List.drop_take,List.drop_drop]
  congr 1
  omega
theorem p7 (hT : bj P T) {N d : Nat} {f : TypeId -> Option Nat} (hf : ∀ t c, f t = some c -> wW P T F w N d t c) : ∀ (fs : List Field), (∀ f ∈ fs, (f.name == "_") = false) -> ∀ (n m : Nat), m7 f (fs.map fun f => (f.offset, f.type)) n = some m ->
  n<=m /\ ∀ (xs ys:List D) (r:Bool) (lx ly:Array Value),aY F w xs lx.toList->aY F w ys ly.toList->vY T (fun t xs=>n8 T d t xs) (fs.map fun f=>(f.offset,f.type)) xs=true->m<=xs.length->m<=ys.length->cd ((xs.drop n).take (m-n)) ((ys.drop n).take (m-n))=some r ->
   (Op.eqFields N lx ly fs).run P w = .ok r w /\
   ∀ em, (forIn (m := Sem) fs PUnit.unit fun f _ => (if f.name ≠ "_" then do
     Instr.checkKey em N f.type (<- part f.type lx f.offset)
     pure (ForInStep.yield PUnit.unit)
    else pure (ForInStep.yield PUnit.unit))).run P w = .ok PUnit.unit w
 | [],_,n,m,h=>by
  simp only[List.map_nil,m7,Option.some.injEq]at h;subst h;refine⟨Nat.le_refl _,fun xs ys r lx ly _ _ _ _ _ h=>?_⟩;simp[cd]at h;subst h;simp[Op.eqFields]
 | g::fs,pa,n,m,h=>by
  simp only[List.map_cons,m7]at h;split at h;case h_2=>cases h
  rename_i c qg hc;have qg:=dc qg;obtain⟨⟨ti,fL,cU⟩,e7⟩:=hf _ _ hc;obtain⟨hle,EN⟩:=p7 hT hf fs (fun g hg=>pa g (List.mem_cons_of_mem _ hg)) _ _ h;refine⟨by omega,fun xs ys r lx ly pE re xm ET Tp hs=>?_⟩;simp only[List.map_cons,vY,fL]at xm;split at xm;case h_2=>cases xm
  rename_i dC;obtain⟨p,q,hp,hq,rfl⟩:=nH (c+1) hs;rw[(gh xs hle).1,(gh ys hle).1]at hp;rw[(gh xs hle).2,(gh ys hle).2]at hq;have GQ:ti.size=c+1:=cU;obtain⟨x,hx,GU⟩:=iV (F:=F) (w:=w) hT fL pE (off:=g.offset) (by omega) (by omega);obtain⟨y,hy,GV⟩:=iV (F:=F) (w:=w) hT fL re (off:=g.offset) (by omega) (by omega);rw[GQ,qg]at GU GV;rw[GQ,qg]at dC;obtain⟨h1,h2⟩:=e7 _ _ p (by simp;omega) dC hp x y GU GV;obtain⟨h3,h4⟩:=EN xs ys q lx ly pE re xm ET Tp hq
  have Nm : g.name ≠ "_" := by
   have:=pa g (List.mem_cons_self ..);simpa using this
  refine⟨?_,fun em=>?_⟩
  ·simp only[Op.eqFields,Nm,ne_eq,not_false_eq_true,if_true,Sem.run_bind,hx,hy,Result.andThen_ok,h1]
   cases p
   ·simp
   ·simp[h3]
  ·simp only[List.forIn_cons,Sem.run_bind,Nm,ne_eq,not_false_eq_true,if_true,Result.andThen_ok,hx,h2 em,Sem.run_pure]
   exact h4 em
theorem p8(hT:bj P T){N d:Nat}{e:TypeId}{c:Nat}(he:wW P T F w N d e (c+1)):∀ (n i:Nat) (xs ys:List D) (r:Bool) (lx ly:Array Value),aY F w xs lx.toList->aY F w ys ly.toList->vZ (fun xs=>n8 T d e xs) (c+1) n (xs.drop (i*(c+1)))=true->xs.length=(i+n)*(c+1)->ys.length=(i+n)*(c+1) ->
  cd (xs.drop (i*(c+1))) (ys.drop (i*(c+1)))=some r ->
   (Op.eqItems N e (c+1) lx ly (List.range' i n)).run P w = .ok r w /\
   ∀ em,(forIn (m:=Sem) (List.range' i n) PUnit.unit fun j _=>(do
    Instr.checkKey em N e (<- part e lx (j*(<- sizeOf e)))
    pure (ForInStep.yield PUnit.unit))).run P w = .ok PUnit.unit w
 | 0,i,xs,ys,r,lx,ly,pE,re,_,AH,EU,hs=>by
  have e1:xs.drop (i*(c+1)) = []:=List.drop_eq_nil_of_le (by rw[AH];simp);have e2:ys.drop (i*(c+1)) = []:=List.drop_eq_nil_of_le (by rw[EU];simp);rw[e1,e2]at hs;simp only[cd,Option.some.injEq]at hs;subst hs;simp[Op.eqItems]
 | n+1,i,xs,ys,r,lx,ly,pE,re,xm,AH,EU,hs=>by
  simp only[vZ]at xm;split at xm;case h_2=>cases xm
  rename_i dC;obtain⟨⟨ti,fL,cU⟩,e7⟩:=he;have e1:(i+1)*(c+1)=i*(c+1)+(c+1):=Nat.succ_mul _ _;have e2:(i+(n+1))*(c+1)=i*(c+1)+n*(c+1)+(c+1):=by rw[Nat.add_mul,Nat.succ_mul];omega
  have e3:(i+1+n)=i+(n+1):=by omega
  obtain⟨p,q,hp,hq,rfl⟩:=nH (c+1) hs;obtain⟨x,hx,GU⟩:=iV (F:=F) (w:=w) hT fL pE (off:=i*(c+1)) (by omega) (by omega);obtain⟨y,hy,GV⟩:=iV (F:=F) (w:=w) hT fL re (off:=i*(c+1)) (by omega) (by omega);rw[cU]at GU GV;obtain⟨h1,h2⟩:=e7 _ _ p (by simp;omega) dC hp x y GU GV;rw[List.drop_drop,List.drop_drop,<- e1]at hq;rw[List.drop_drop,<- e1]at xm;obtain⟨h3,h4⟩:=p8 hT ⟨⟨ti,fL,cU⟩,e7⟩ n (i+1) xs ys q lx ly pE re xm (by rw[e3];exact AH) (by rw[e3];exact EU) hq;have ea:(sizeOf e).run P w = .ok (c+1) w:=by rw[<- cU];exact dK hT fL
  refine⟨?_,fun em=>?_⟩
  ·simp only[List.range'_succ,Op.eqItems,Sem.run_bind,hx,hy,Result.andThen_ok,h1]
   cases p
   ·simp
   ·simp[h3]
  ·simp only[List.range'_succ,List.forIn_cons,Sem.run_bind,ea,Result.andThen_ok,hx,h2 em,Sem.run_pure]
   exact h4 em
theorem oV(hT:bj P T):∀ (d:Nat) (t:TypeId) (n:Nat),flat T d t=some n -> ∀ N,d<=N->wW P T F w N d t n
 | 0,_,_,h,_,_=>by simp[flat]at h
 | d+1,t,n,h,0,hN=>by omega
 | d+1,t,n,h,N+1,hN=>by
  simp only[flat]at h;split at h
  ·cases h
  rename_i ti fL;obtain⟨i,de,hi,fV,_,_,dt,mP,Lk,_⟩:=hT t ti fL;split at h
  ·rename_i k hk
   have e:=lq (dt▸hk);subst e;split at h;case h_2=>cases h
   rename_i qh;cases h;refine⟨⟨ti,fL,dc qh⟩,fun xs ys r hl tZ hs x y hx hy=>?_⟩;obtain⟨a,b,rfl,rfl,vm⟩:=rn hl hs;have kl:=hx ti fL;have mb:=hy ti fL;rw[mP]at kl mb;have ex:=kl _ rfl;have ey:=mb _ rfl;simp only[n8,fL,hk]at tZ;split at tZ;case h_2=>cases tZ
   rename_i k1 a1 e1;cases e1;obtain⟨c,rfl,rfl⟩:=wJ (k:=k1) (a:=a1) (b:=b) (r:=r) (by revert vm;cases b<;>simp[lH,r8]);cases ex;cases ey
   exact⟨EW fV,fun em=>jG fV (.inl ⟨_,rfl⟩) em⟩
  ·rename_i hk
   have e:=nY (dt▸hk);subst e;split at h;case h_2=>cases h
   rename_i qh;cases h;refine⟨⟨ti,fL,dc qh⟩,fun xs ys r hl tZ hs x y hx hy=>?_⟩;obtain⟨a,b,rfl,rfl,vm⟩:=rn hl hs;have kl:=hx ti fL;have mb:=hy ti fL;rw[mP]at kl mb;have ex:=kl _ rfl;have ey:=mb _ rfl;simp only[n8,fL,hk]at tZ;split at tZ;case h_2=>cases tZ
   rename_i a1 e1;cases e1;cases b<;>simp only[lH]at vm<;>try (cases vm;done)
   cases ex;cases ey
   refine⟨?_,fun em=>jG fV (.inr rfl) em⟩;rw[Op.equalIn];simp only[Sem.run_bind,run_underlying fV,Result.andThen_ok,Sem.run_pure];rw[Option.some.inj vm]
  ·rename_i hk
   obtain⟨ms,e⟩:=um (dt▸hk);subst e;split at h;case h_2=>cases h
   rename_i d' qh;cases h;refine⟨⟨ti,fL,dc qh⟩,fun xs ys r hl tZ hs x y hx hy=>?_⟩;obtain⟨a,b,rfl,rfl,vm⟩:=rn hl hs;have kl:=hx ti fL;have mb:=hy ti fL;rw[mP]at kl mb;have ex:=kl _ rfl;have ey:=mb _ rfl;simp only[n8,fL,hk]at tZ;split at tZ;case h_2=>cases tZ
   rename_i u k a1 e1;cases e1;split at tZ;case h_2=>cases tZ
   rename_i ui J0;split at tZ;case h_2=>cases tZ
   rename_i k' dC CO;have:=of_decide_eq_true tZ;subst this;obtain⟨iu,du,JS,IP,_,_,Pt,_,Pj,_⟩:=hT u ui J0;have eu:=lq (Pt.symm.trans dC);subst eu;have K8:=(Pj CO).2 k dC;obtain⟨N',rfl⟩:∃ N',N=N'+1:=⟨N-1,by omega⟩;obtain⟨v,rfl,hv⟩:=ex;have hv:v = .int k a1:=hv;subst hv;refine⟨?_,fun em=>?_⟩
   ·cases b<;>simp only[lH]at vm<;>try (cases vm;done)
    rename_i u' b1;obtain⟨v',rfl,C1⟩:=ey;split at vm
    ·rename_i hu
     have:=Nat.eq_of_beq_eq_true hu;subst this;obtain⟨c,rfl,rfl⟩:=wJ vm;have C1:v' = .int k c:=C1;subst C1;rw[Op.equalIn];simp only[Sem.run_bind,run_underlying fV,Result.andThen_ok];simp[typeInfo,JS,K8,Sem.run_bind,EW IP]
    ·rename_i hu hn
     cases vm;have eA:u≠u':=by rintro rfl;simp at hu
     rw[Op.equalIn];simp only[Sem.run_bind,run_underlying fV,Result.andThen_ok];simp[eA]
    ·cases vm
   ·rw[Instr.checkKey]
    simp only[Sem.run_bind,run_underlying fV,Result.andThen_ok];simp[typeInfo,JS,K8,jG IP (.inl ⟨_,rfl⟩)]
  ·rename_i fs hk
   obtain⟨fa,rfl,rfl,pa⟩:=gA (dt▸hk);split at h;case h_2=>cases h
   rename_i m ED hm;split at h;case h_2=>cases h
   rename_i qh;cases h;have Au:P.stoodInHeld t=false:=(Lk ED).1;refine⟨⟨ti,fL,dc qh⟩,fun xs ys r hl tZ hs x y hx hy=>?_⟩;simp only[n8,fL,hk]at tZ;have EK:=n5 hs;have kl:=hx ti fL;have mb:=hy ti fL;rw[mP]at kl mb;simp only[pL,if_true]at kl mb;obtain⟨lx,rfl,pE⟩:=kl;obtain⟨ly,rfl,re⟩:=mb;obtain⟨_,hF⟩:=p7 (P:=P) (F:=F) (w:=w) hT (N:=N) (fun t c h=>oV hT d t c h N (by omega)) fa.toList pa 0 _ hm;obtain⟨h1,h2⟩:=hF xs ys r lx ly pE re tZ (by omega) (by omega) (by
    simp only[List.drop_zero,Nat.sub_zero];rw[List.take_of_length_le (by omega),List.take_of_length_le (by omega)];exact hs)
   have tU:P.fieldsOf t=fa:=by simp[Program.fieldsOf,fV]
   refine⟨by rw[run_equalIn_struct w N t lx ly (by rw[tU];exact fV) Au,tU];exact h1,fun em=>?_⟩;rw[Instr.checkKey];simp only[Sem.run_bind,run_underlying fV,Result.andThen_ok];rw[<- Array.forIn_toList];rw[h2 em];rfl
  ·rename_i m e hk
   have e':=eT (dt▸hk);subst e';split at h;case h_2=>cases h
   rename_i c hc;split at h;case h_2=>cases h
   rename_i qh;cases h;refine⟨⟨ti,fL,dc qh⟩,fun xs ys r hl tZ hs x y hx hy=>?_⟩;simp only[n8,fL,hk]at tZ;have EK:=n5 hs;have kl:=hx ti fL;have mb:=hy ti fL;rw[mP]at kl mb;simp only[pL,if_true]at kl mb;obtain⟨lx,rfl,pE⟩:=kl;obtain⟨ly,rfl,re⟩:=mb;have he:=oV hT d e (c+1) hc N (by omega);obtain⟨TS,Sq⟩:∃ ei,T.get e=some ei:=by obtain⟨⟨ei,iB,_⟩,_⟩:=he;exact⟨ei,iB⟩
   obtain⟨h1,h2⟩:=p8 hT he m 0 xs ys r lx ly pE re (by
    obtain⟨⟨ei,iB,IT⟩,_⟩:=he;simp only[iB,IT]at tZ;simpa using tZ) (by rw[Nat.zero_add];exact hl) (by rw[Nat.zero_add,<- EK];exact hl) (by simpa using hs)
   obtain⟨⟨ei,iB,IT⟩,_⟩:=he;obtain⟨ie,_,kS,_,ea,_⟩:=hT e ei iB;have K7:P.cellsOf e=c+1:=by simp[Program.cellsOf,kS,<- ea,IT]
   refine⟨by rw[run_equalIn_array w N lx ly fV kS,K7,List.range_eq_range'];exact h1,fun em=>?_⟩;rw[Instr.checkKey];simp only[Sem.run_bind,run_underlying fV,Result.andThen_ok];simp only[Std.Legacy.Range.forIn_eq_forIn_range',Std.Legacy.Range.size,Nat.sub_zero,Nat.add_one_sub_one,Nat.div_one];rw[h2 em];rfl
  ·cases h
end
end Go.PX
