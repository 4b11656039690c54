import Derived.Test.YtdijdldheikcmaaGreatPxC
import Derived.Deep.AppendSrc
import Derived.ChangeKeysEq
set_option linter.all false
namespace Go.PX
open Go.RowKit
section
variable {σ : Type} {cx : Cx σ} {r : Option Nat} {m : List Nat} {L : Loc} {F : Nat -> Nat} {st : St σ} {a : Act} {w : World}
theorem Good.FE(hh:Good cx r m L F st a w){id d:Nat}{o0 o:Obj}(Wu:¬ pinned d)(h0:get st.heap id=some o0)(rE:aG L id o0){w':World}
  (PO:w'.os=w.os) (ht:w'.tape=w.tape) (hu:w'.output=w.output) (cM:w'.heap.size=w.heap.size) (hk:∀ b,b≠L.ρ id->w'.heap[b]?=w.heap[b]?)
  (vR:∀ ds,w.heap[L.ρ id]?≠some (.deferred ds)) (iZ:∀ lp,w.heap[L.ρ id]?≠some (.loop lp))
  (ho:bE cx.yv ⟨fun i=>if i=d then L.ρ id else L.ρ i,fun i=>if i=d then L.κ id else L.κ i⟩ F w' d o) :
  Good cx r m ⟨fun i=>if i=d then L.ρ id else L.ρ i,fun i=>if i=d then L.κ id else L.κ i⟩ F (br (br st (.del id)) (.new d o)) a w'/\Tr F w F w':=by
 obtain⟨hF,Kq⟩:=hh.heap.own id o0 h0 rE;have tr:Tr F w F w':=.gM PO ht hu (by omega) (fun _=>Nat.le_refl _) hh.heap.fresh fun b _ Us=>hk b (by rintro rfl;omega);have hC:∀ c,cx.C st.s c->w'.heap[c]?=w.heap[c]?:=fun c hc=>hk c (by rintro rfl;exact Kq hc);have hg:∀ i o',get (br (br st (.del id)) (.new d o)).heap i=some o'->(i=d/\o'=o)\/(i≠d/\i≠id /\ ∃ o1,get st.heap i=some o1/\o'=Obj.aB (aU d) o1):=by
  intro i o' hi;simp only[br,eM,dt,bC,dz]at hi;split at hi
  ·rename_i e;left;exact⟨e,by cases hi;rfl⟩
  ·rename_i e
   right;by_cases eb:i=id
   ·simp[eb]at hi
   ·refine⟨e,eb,?_⟩
    cases h1:get st.heap i with
    | none=>simp[h1]at hi
    | some o1=>simp[h1,eb]at hi;exact⟨o1,rfl,hi.symm⟩
 have key:∀ i o',get (br (br st (.del id)) (.new d o)).heap i=some o'->i≠d->aG ⟨fun i=>if i=d then L.ρ id else L.ρ i,fun i=>if i=d then L.κ id else L.κ i⟩ i o'->i≠id /\ ∃ o1,get st.heap i=some o1/\aG L i o1:=by
  intro i o' hi eX hb;rcases hg i o' hi with⟨rfl,rfl⟩|⟨_,eb,o1,h1,rfl⟩
  ·exact absurd rfl eX
  ·refine⟨eb,o1,h1,?_⟩
   have:=(df _ d i o1).1 hb;cases o1<;>simp_all[aG]
 refine⟨⟨⟨cx.ff hh.heap.hg tr (fun c hc=>hh.heap.fresh c (by omega)) fun c hc=>⟨hC c hc,rfl⟩,fun c hc=>by rw[cM];exact hh.heap.kq c hc,fun c hc=>hh.heap.fresh c (by omega),?_,?_,?_⟩,?_,hh.w8,?_,hh.ye,?_,fun i hi=>?_,hh.wE⟩,tr⟩
 ·intro i o' hi
  rcases hg i o' hi with⟨rfl,rfl⟩|⟨eX,eb,o1,h1,rfl⟩
  ·exact ho
  ·refine bE.mono (L:=L) tr i _ (fun j hj=>?_) ⟨by simp[eX],by simp[eX]⟩ (fun hb=>hk _ ?_) (bE.kill d i o1 (hh.heap.obj i o1 h1))
   ·have:j≠d:=by rintro rfl;exact mW j o1 hj
    simp[this]
   ·intro e
    exact eb (hh.heap.inj i id o1 o0 h1 h0 ((df L d i o1).1 hb) rE e)
 ·intro i o' hi hb
  by_cases kA:i=d
  ·subst kA;simp only[if_true];exact⟨hF,Kq⟩
  ·obtain⟨_,o1,h1,nY⟩:=key i o' hi kA hb
   simp only[kA,if_false];exact hh.heap.own i o1 h1 nY
 ·intro i j o' p hi hj nZ kL e
  by_cases kA:i=d<;>by_cases CU:j=d
  ·rw[kA,CU]
  ·exfalso
   obtain⟨Tc,p1,AB,CP⟩:=key j p hj CU kL;simp[kA,CU]at e;exact Tc (hh.heap.inj j id p1 o0 AB h0 CP rE e.symm)
  ·exfalso
   obtain⟨S9,p1,AB,CP⟩:=key i o' hi kA nZ;simp[kA,CU]at e;exact S9 (hh.heap.inj i id p1 o0 AB h0 CP rE e)
  ·obtain⟨_,o1,Om,nY⟩:=key i o' hi kA nZ
   obtain⟨_,p1,AB,CP⟩:=key j p hj CU kL;simp only[kA,CU,if_false]at e;exact hh.heap.inj i j o1 p1 Om AB nY CP e
 ·intro s v hs
  simp only[br,bC]at hs
  cases h1:get st.env s with
  | none=>simp[h1]at hs
  | some v0=>
   simp[h1]at hs;subst hs;obtain⟨x,hx,hr⟩:=hh.env s v0 h1;refine⟨x,hx,aR.mono tr _ x (fun j hj=>?_) (aR.kill d v0 x hr)⟩;have:j≠d:=by rintro rfl;exact jH j v0 hj
   simp[this]
 ·intro b hb
  have:=(hh.qB b hb).1;exact⟨by rw[hk b (by rintro rfl;exact vR _ this)];exact this,(hh.qB b hb).2⟩
 ·intro l hl
  obtain⟨lp,uT⟩:=hh.lk l hl;exact⟨lp,⟨by rw[hk l (by rintro rfl;exact iZ _ uT.1.1)];exact uT.1.1,uT.1.2⟩,uT.2⟩
 ·have:i≠d:=by rintro rfl;exact Wu hi
  simp only[this,if_false];exact hh.mB i hi
end
theorem aI.hP(c:aI):c.len=c.a5.length:=by
 cases c<;>simp[aI.len,aI.a5,cn]
theorem aI.m7(c:aI)(off n:Nat):(c.part off n).a5=(c.a5.drop off).take n:=by
 cases c<;>simp[aI.part,aI.a5,cn,List.map_drop,List.map_take]
theorem aI.wU(c x:aI):(c.app x).a5=c.a5++x.a5:=by
 cases c<;>cases x<;>simp[aI.app,aI.a5,cn]
theorem fm{α:Type}{sz:Nat}:∀ {es:List (List α)} (n:Nat),cy sz es->(es.take n).flatten=es.flatten.take (n*sz)
 | [],n,_=>by simp
 | f::es,0,_=>by simp
 | f::es,n+1,h=>by
  have hf:=h f (List.mem_cons_self ..);have e1:(n+1)*sz=f.length+n*sz:=by rw[Nat.succ_mul];omega
  rw[List.take_succ_cons,List.flatten_cons,List.flatten_cons,fm n (fun e he=>h e (List.mem_cons_of_mem _ he)),e1,List.take_length_add_append]
theorem lM{α:Type}{sz:Nat}:∀ {es:List (List α)} (n:Nat),cy sz es->(es.drop n).flatten=es.flatten.drop (n*sz)
 | [],n,_=>by simp
 | f::es,0,_=>by simp
 | f::es,n+1,h=>by
  have hf:=h f (List.mem_cons_self ..);have e1:(n+1)*sz=f.length+n*sz:=by rw[Nat.succ_mul];omega
  rw[List.drop_succ_cons,List.flatten_cons,lM n (fun e he=>h e (List.mem_cons_of_mem _ he)),e1,List.drop_length_add_append]
section
variable {yv : Option Nat} {L : Loc} {F : Nat -> Nat} {w : World}
theorem cv.cells{b off sz:Nat}:∀ {es:List (List D)},cv F w b off sz es -> ∃ l:List Value,aN F w es.flatten l/\l.length=es.length*sz /\ ∀ (j:Nat) v,l[j]?=some v->w.cell? ⟨b,off+j,none⟩=some v:=by
 intro es;have at_:∀ {cs:List D} {o:Nat},bW F w b o cs -> ∃ l:List Value,aN F w cs l /\ ∀ (j:Nat) v,l[j]?=some v->w.cell? ⟨b,o+j,none⟩=some v:=by
  intro cs
  induction cs with
  | nil=>intro o _;exact⟨[],rfl,by simp⟩
  | cons c r ih=>
   intro o h;obtain⟨_,⟨x,hx,hc⟩,hr⟩:=h;obtain⟨l,hl,hj⟩:=ih hr;refine⟨x::l,⟨x,l,rfl,hc,hl⟩,fun j v hv=>?_⟩
   cases j with
   | zero=>simp at hv;subst hv;exact hx
   | succ j=>
    have:=hj j v (by simpa using hv);rw[Nat.add_assoc,Nat.add_comm 1 j]at this;exact this
 induction es generalizing off with
 | nil=>intro _;exact⟨[],rfl,by simp,by simp⟩
 | cons e r ih=>
  intro h;obtain⟨he,ha,hr⟩:=h;obtain⟨l1,h1,j1⟩:=at_ ha;obtain⟨l2,h2,e2,j2⟩:=ih hr;have e1:=h1.length;refine⟨l1++l2,?_,by simp[e1,e2,he,Nat.succ_mul];omega,fun j v hv=>?_⟩
  ·rw[List.flatten_cons]
   have:=ak.append (yv:=none) (L:=⟨fun _=>0,fun _=>0⟩) (ak.inj.2 h1) (ak.inj.2 h2);rw[<- lU]at this;exact ak.inj.1 this
  ·by_cases hj:j<l1.length
   ·rw[List.getElem?_append_left hj]at hv;exact j1 j v hv
   ·rw[List.getElem?_append_right (by omega)]at hv
    have:=j2 _ v hv;have e:off+sz+(j-l1.length)=off+j:=by omega
    rw[e]at this;exact this
theorem pJ{σ':Type}{h:ar}{s:σ'}{cx:Cx σ'}{hp:ar}(hs:cP h hp)(hg:ba cx L F hp s w){v:V}{fs:aI}(hf:oD h v=some fs){y:Value}(hr:aR cx.yv L F w v y){sz:Nat}(hl:∀ e∈fs.a5,e.length=sz)(cM:0<sz) :
  ∃ (ay:Option Addr) (cap:Nat) (news:List Value),y = .slice ay fs.a5.length cap/\fs.a5.length<=cap/\ak cx.yv L F w fs.a5.flatten news/\news.length=fs.a5.length*sz /\
   (fs.a5 = [] \/ ∃ b off,ay=some ⟨b,off,none⟩ /\ ∀ (j:Nat) v,news[j]?=some v->w.cell? ⟨b,off+j,none⟩=some v):=by
 unfold oD at hf;split at hf
 ·rename_i es
  cases hf;obtain⟨a0,len,cap,rfl,hlen,jA,mG⟩:=hr;have e1:(aI.dd es).a5.length=es.length:=by simp[aI.a5,cn]
  by_cases eX:es = []
  ·subst eX
   refine⟨a0,cap,[],by rw[hlen];rfl,Nat.zero_le _,rfl,by simp[aI.a5,cw],.inl rfl⟩
  ·obtain⟨b,off,W3,rfl,C2,ya⟩:=mG eX
   have AF:W3=sz:=by
    cases es with
    | nil=>exact absurd rfl eX
    | cons x r=>
     have:=hl (inj x) (by simp[aI.a5,cw]);rw[dK]at this;exact ya.1.symm.trans this
   subst AF;obtain⟨l,h1,h2,h3⟩:=cv.cells ya;refine⟨_,cap,l,by rw[hlen,e1],by rw[e1,<- hlen];exact jA,?_,by rw[h2,e1],.inr ⟨b,off,rfl,h3⟩⟩;show ak _ _ _ _ (cw es).flatten l;rw[dB];exact ak.inj.2 h1
 ·cases hf
  have hr:y = .slice none 0 0:=hr;exact⟨none,0,[],hr,Nat.le_refl _,rfl,by simp[aI.a5,cw],.inl rfl⟩
 ·rename_i id z off n
  split at hf;case h_2=>cases hf
  rename_i m es mG;split at hf;case h_2=>cases hf
  rename_i Ad Av;cases hf;have Ad:=cT Ad;have Av:=kO Av;subst Ad;rw[aI.hP]at Av;obtain⟨a0,cap,rfl,jA,U0,hb⟩:=hr;have e1:(es.part off n).a5.length=n:=by rw[aI.m7];simp;omega
  obtain⟨_,fv,gf⟩:=hg.obj id _ (hs _ _ mG);by_cases pg:n=0
  ·subst pg
   have e0:(es.part off 0).a5 = []:=by rw[aI.m7];simp
   exact⟨a0,cap,[],by rw[e0];rfl,by rw[e0];exact Nat.zero_le _,by rw[e0];rfl,by rw[e0];simp,.inl e0⟩
  ·rcases hb with⟨h0,_⟩|⟨rfl,hb⟩
   ·omega
   have Tn:m=sz:=by
    have hx:off<es.a5.length:=by omega
    have:=hl es.a5[off] (by rw[aI.m7];exact List.mem_iff_getElem?.2 ⟨0,by rw[List.getElem?_take_of_lt (by omega),List.getElem?_drop];simp[hx]⟩);rw[<- this];exact(fv _ (List.getElem_mem _)).symm
   subst Tn;rcases gf with⟨he,_⟩|⟨l,E,iF,hk,EZ,AE⟩
   ·rw[he]at Av;simp at Av;omega
   have vO:(es.part off n).a5.flatten=(es.a5.flatten.drop (off*m)).take (n*m):=by
    rw[aI.m7,fm _ (fun e he=>fv e (List.mem_of_mem_drop he)),lM _ fv]
   have hle:(off+n)*m<=es.a5.length*m:=Nat.mul_le_mul_right _ Av;rw[Nat.add_mul]at hle;refine⟨_,cap,((l.toList.take (es.a5.length*m)).drop (off*m)).take (n*m),by rw[e1],by rw[e1];exact jA,by rw[vO];exact(AE.drop _).take _,?_,.inr ⟨_,_,rfl,fun j v hv=>?_⟩⟩
   ·rw[e1];simp;omega
   ·rw[cell_of_row _ _ _ _ _ _ iF]
    have hj:j<n*m:=by have:=(List.getElem?_eq_some_iff.1 hv).1;simp at this;omega
    rw[List.getElem?_take_of_lt hj,List.getElem?_drop,List.getElem?_take_of_lt (by omega)]at hv;simpa using hv
 ·cases hf
end
section
variable {P : Program} {T : dJ}
theorem run_append_room{w:World}(t tx ty e:TypeId){i:TypeInfo}(ht:P.underlying t=some (.slice e))(hi:P.info? e=some i){b off sLen sCap:Nat}{x:Value}{n:Nat}{news:List Value}(hs:Src P i.size tx x n news w)
  (oc:sLen+n<=sCap) {c:Array Value} {E:TypeId} (hb:w.heap[b]?=some (.cells c E (0,0))) (hc:off+sCap*i.size<=c.size) :
  (Builtin.append_ #[t,tx] ty #[.slice (some ⟨b,off,none⟩) sLen sCap,x]).run P w =
   .ok (.slice (some ⟨b,off,none⟩) (sLen+n) sCap) (w.setRow b (c.toList.take (off+sLen*i.size)++news++c.toList.drop (off+sLen*i.size+news.length)).toArray):=by
 have hle:(sLen+n)*i.size<=sCap*i.size:=Nat.mul_le_mul_right _ oc;rw[Nat.add_mul]at hle;have sd:=run_storeCells_at (P:=P) b (off+sLen*i.size) E news 0 c w hb (by rw[hs.newsLen];omega) hs.one;simp only[Nat.add_zero]at sd;rcases hs.kind with⟨e',hk⟩|hk<;>simp[Builtin.append_,run_underlying ht,run_underlying hk,sizeOf,typeInfo,hi,hs.len,oc,hs.cells,dV,sd]
theorem iO{w:World}(t tx ty e:TypeId){i:TypeInfo}(ht:P.underlying t=some (.slice e))(hi:P.info? e=some i){base:Option Addr}{sLen sCap:Nat}{x:Value}(hs:Src P i.size tx x 0 [] w)
  (oc:sLen<=sCap) :
  (Builtin.append_ #[t,tx] ty #[.slice base sLen sCap,x]).run P w = .ok (.slice base sLen sCap) w:=by
 cases base<;>rcases hs.kind with⟨e',hk⟩|hk<;>simp[Builtin.append_,run_underlying ht,run_underlying hk,sizeOf,typeInfo,hi,hs.len,oc,hs.cells,storeCells]
theorem Ba{w:World}{size:Nat}{u el:TypeId}(hu:P.underlying u=some (.slice el)){ay:Option Addr}{n cap:Nat}{news:List Value}(hlen:news.length=n*size)
  (hc:n=0 \/ ∃ b off,ay=some ⟨b,off,none⟩ /\ ∀ (j:Nat) v,news[j]?=some v->w.cell? ⟨b,off+j,none⟩=some v) (h1:∀ v∈news,v.oneCell'=true) :
  Src P size u (.slice ay n cap) n news w:=by
 rcases hc with rfl|⟨b,off,rfl,hj⟩
 ·have hn:news = []:=List.length_eq_zero_iff.1 (by simpa using hlen)
  subst hn
  cases ay with
  | none=>exact Src.ofNil w hu cap
  | some ad=>exact Src.ofSlice w hu ad 0 cap [] (by simp) (by simp) (fun _ h=>by cases h)
 ·exact Src.ofSlice w hu _ n cap news hlen (fun j v hv=>by rw[dV];exact hj j v hv) h1
variable {e : Env} {h : ar} {dst : Option Nat} {K : List Wr -> Prop} {ty : TypeId} {pos : String} {after : Array Edge} {guard : Option (Nat × Bool)}
theorem ru{σ:Type}{cx:Cx σ}{r:Option Nat}{m:List Nat}{L:Loc}{F:Nat->Nat}{st:St σ}{a:Act}{w:World}(hg:Good cx r m L F st a w){d:Nat}(hd:d<a.tmps.size)
  {t tx el:TypeId} {ie:TypeInfo} {z:Value} (hu:P.underlying t=some (.slice el)) (kA:P.info? el=some ie) (hz:ie.zero=some z) (I0:z.cells.size=ie.size) (cM:0<ie.size) (BR:0<ie.bytes)
  {base:Option Addr} {len cap n:Nat} {olds news:List Value} {x:Value} (hold:∀ w':World,(∀ y,w'.cell? y=w.cell? y)->(Builtin.firstCells ie.size len (.slice base len cap)).run P w' = .ok olds.toArray w')
  (BU:olds.length=len*ie.size) (hs:Src P ie.size tx x n news w) (G1:cap<len+n) (gG:(len+n)*ie.bytes<=140737488355328)
  {es:aI} (r9:es.a5.length=len+n) (fv:cy ie.size es.a5) (hr:ak cx.yv L F w es.a5.flatten (olds++news)) (hf:¬ bt es.a5.flatten d) :
  ∃ v w' L' F',(Builtin.append_ #[t,tx] ty #[.slice base len cap,x]).run P w = .ok v w'/\Good cx r m L' F' (aH st [.new d (.arr ie.size es),.set d (.sl d ie.size 0 (len+n))]) (a.put (some d) v) w'/\Tr F w F' w':=by
 have iZ:=hs.newsLen;have VH:((len+n:Nat):Int)<=9223372036854775807:=by
  have:len+n<=(len+n)*ie.bytes:=Nat.le_mul_of_pos_right _ BR;omega
 have bp:=run_append_grow_src (P:=P) w t tx ty el ie z hu kA hz base len cap olds (hold w.drew fun _=>rfl) x n news hs G1 VH (growslice_fits G1 gG);generalize hgc:grownCap w (len+n) cap el=nc at bp;have To:len+n<=nc:=by rw[<- hgc];exact grownCap_ge _ _ _ _
 generalize eH:(olds++news).toArray++Builtin.zeroCells z.cells (nc-(len+n))=c' at bp;have hmul:(len+n)*ie.size=len*ie.size+n*ie.size:=Nat.add_mul _ _ _;have Aw:c'.toList.take ((len+n)*ie.size)=olds++news:=by
  rw[<- eH];have:(olds++news).length=(len+n)*ie.size:=by simp[BU,iZ,hmul]
  rw[<- this];simp only[Array.toList_append];exact List.take_left' rfl
 have oL:c'.size=nc*ie.size:=by
  rw[<- eH];have h1:nc=(len+n)+(nc-(len+n)):=by omega
  have h2:nc*ie.size=(len+n)*ie.size+(nc-(len+n))*ie.size:=by
   conv=>lhs;rw[h1]
   rw[Nat.add_mul]
  rw[h2];simp[Builtin.zeroCells,BU,iZ,I0,hmul]
 have Kb:Good cx r m L F st a w.drew:=hg.same rfl rfl rfl rfl;have Ig:Tr F w F w.drew:=Tr.drew _;have yf:Tr F w.drew F (w.drew.alloc (.cells c' el)):=Tr.alloc Kb.heap.fresh _;have hle:(len+n)*ie.size<=nc*ie.size:=Nat.mul_le_mul_right _ To;have pV:=Kb.new d c'.size (.arr ie.size es) (.cells c' el) (Kb.dH hd) ⟨cM,fv,.inr ⟨c',el,(by show(w.drew.alloc _).heap[if d=d then w.drew.heap.size else L.ρ d]?=_;rw[if_pos rfl];exact heap_alloc_new w.drew _),(by simp),(by rw[r9,oL];exact hle),(by
  rw[r9,Aw];exact ak.jJ (L:=L) (Tr.trans Ig yf) (fun i hi=>by simp[hi]) hf hr)⟩⟩
 refine⟨_,_,_,F,bp,pV.set (v:=.sl d ie.size 0 (len+n)) hd ⟨_,_,rfl,To,cM,.inr ⟨(by simp),(by simp[oL])⟩⟩,Tr.trans Ig yf⟩
theorem cW(s:ByteArray):(bI s).length=s.size:=byteCells_length s
theorem mj(a b:ByteArray):bI (a++b)=bI a++bI b:=by
 simp[bI]
theorem JF(hT:aY P T){t el:TypeId}{ei:nQ}(h:JE T t=some (el,ei)):P.underlying t=some (.slice el)/\T.get el=some ei/\eP T t=some ei:=by
 unfold JE at h;split at h;case h_2=>cases h
 rename_i ti ht;split at h;case h_2=>cases h
 rename_i e he;split at h;case h_2=>cases h
 rename_i Vr ic;cases h;obtain⟨de,fq,dv⟩:=dC hT ht;rw[he]at dv;have hs:eP T t=some ei:=by simp[eP,ht,he,ic]
 refine⟨?_,ic,hs⟩;have:=dL dv.symm;rw[fq,this]
theorem Hq(hT:aY P T){t:TypeId}(h:isStr T t=true):P.underlying t=some .string:=by
 unfold isStr at h;split at h;case h_2=>cases h
 rename_i ti ht;split at h;case h_2=>cases h
 rename_i he;obtain⟨de,fq,dv⟩:=dC hT ht;rw[he]at dv;have:=gJ dv.symm;subst this;exact fq
theorem zl(hT:aY P T){u:TypeId}{v:V}{s:ByteArray}(hn:AQ T h u v=some s){σ:Type}{cx:Cx σ}{r:Option Nat}{m:List Nat}{L:Loc}{F:Nat->Nat}{st:St σ}{a:Act}{w:World}
  (hh:cP h st.heap) (hg:Good cx r m L F st a w) {x:Value} (hx:aR cx.yv L F w v x):Src P 1 u x s.size (bI s) w:=by
 have KE:∀ {s:ByteArray},(match eP T u with
  | some _=>match oD h v with
   | some (.dd [[.int .u8 c]])=>match decide (0<=c),decide (c<256) with
    | true,true=>some (⟨#[UInt8.ofNat c.toNat]⟩:ByteArray)
    | _,_=>none
   | _=>none
  | none=>none)=some s->Src P 1 u x s.size (bI s) w:=by
  intro s hn;split at hn;case h_2=>cases hn
  rename_i ui Ly;obtain⟨Vs,Hk,_⟩:=jl hT Ly;split at hn;case h_2=>cases hn
  rename_i c vP;split at hn;case h_2=>cases hn
  rename_i h0 h1;cases hn;have h0:=of_decide_eq_true h0;have h1:=of_decide_eq_true h1;obtain⟨ay,cap,news,Hp,jA,Gm,iZ,tB⟩:=pJ hh hg.heap vP hx (sz:=1) (fun e he=>by
   simp only[aI.a5,cw,inj,List.mem_singleton]at he;subst he;rfl) Nat.one_pos
  obtain⟨y,l',rfl,hy,iF⟩:=Gm;have hy:y = .int .u8 c:=hy;have iF:l' = []:=iF;subst hy iF;have he:bI (⟨#[UInt8.ofNat c.toNat]⟩:ByteArray) = [.int .u8 c]:=by
   have:((UInt8.ofNat c.toNat).toNat:Int)=c:=by
    rw[UInt8.toNat_ofNat_of_lt' (by show c.toNat<256;omega)];omega
   show [Value.int .u8 ((UInt8.ofNat c.toNat).toNat:Int)]=_;rw[this]
  rw[he,Hp];exact Ba Hk (by simpa using iZ) (tB.imp (fun h=>by cases h) fun h=>h) (fun v hv=>by
   rw[List.mem_singleton]at hv;subst hv;rfl)
 unfold AQ at hn;split at hn
 ·rename_i s'
  split at hn;case h_2=>cases hn
  rename_i hs;cases hn;have hx:x = .string s:=hx;subst hx;exact Src.ofString w (Hq hT hs) s
 ·exact KE hn
theorem HC(hT:aY P T){args:Array Operand}{tys:Array TypeId}{x y:Operand}{t u:TypeId}(ct:args.toList = [x,y])(y6:tys.toList = [t,u])(hk:Jq T e h dst t u x y K) :
  ∃ ws,K ws/\Out P e h ⟨dst,.call ⟨.builtin .append,args,tys⟩,ty,pos,after,guard⟩ ws:=by
 unfold Jq at hk;split at hk;case h_2=>exact hk.elim
 rename_i v yv el ei d hx hy ic;split at hk;case h_2=>exact hk.elim
 rename_i s hs;have eW:=bw hk;clear hk;obtain⟨ec,hk⟩:=eW;simp only[Bool.and_eq_true]at ec;obtain⟨ec,uU,nY⟩:=ec;have uU:=cT uU;have nY:=cT nY;obtain⟨se,GY,_⟩:=JF hT ic;obtain⟨ie,z,kA,hz,cM,BR,dA,oK,I0⟩:=pG hT GY ec;have EL:ie.size=1:=by omega
 have Kg:ie.bytes=1:=by omega
 have bp:∀ (a:Act) (w:World) (b:Option Addr) (l c:Nat) (v:Value) (w':World),a.eval x = .slice b l c->(Builtin.append_ #[t,u] ty #[.slice b l c,a.eval y]).run P w = .ok v w' ->
   (execOp a.eval ⟨some d,.call ⟨.builtin .append,args,tys⟩,ty,pos,after,guard⟩).run P w = .ok (.value v) w':=fun a w b l c v w' cF hv=>by
  have h1:args.map a.eval = #[.slice b l c,a.eval y]:=by
   apply Array.ext';simp[ct,cF]
  have h2:tys = #[t,u]:=by
   apply Array.ext';simp[y6]
  simp[execOp,resolve,invoke,builtin,h1,h2,hv]
 have grow:∀ {σ:Type} {cx:Cx σ} {r:Option Nat} {m:List Nat} {L:Loc} {F:Nat->Nat} {st:St σ} {a:Act} {w:World},Good cx r m L F st a w->d<a.tmps.size -> ∀ (base:Option Addr) (cap:Nat) (b:ByteArray),
   a.eval x = .slice base b.size cap->(Builtin.firstCells ie.size b.size (.slice base b.size cap)).run P w.drew = .ok (bI b).toArray w.drew->Src P 1 u (a.eval y) s.size (bI s) w->cap<b.size+s.size->b.size+s.size<=140737488355328 ->
   ∃ v w' L' F',(execOp a.eval ⟨some d,.call ⟨.builtin .append,args,tys⟩,ty,pos,after,guard⟩).run P w = .ok (.value v) w'/\Good cx r m L' F' (aH st [.new d (.buf el (b++s)),.set d (.sl d 1 0 (b++s).size)]) (a.put (some d) v) w'/\Tr F w F' w':=by
  intro σ cx r m L F st a w hg hd base cap b cF hold oN G1 gG;have hr:=run_append_grow_src (P:=P) w t u ty el ie z se kA hz base b.size cap (bI b) hold (a.eval y) s.size (bI s) (by rw[EL];exact oN) G1 (by omega) (growslice_fits G1 (by rw[Kg];omega));generalize hgc:grownCap w (b.size+s.size) cap el=nc at hr;have To:b.size+s.size<=nc:=by rw[<- hgc];exact grownCap_ge _ _ _ _
  generalize eH:(bI b++bI s).toArray++Builtin.zeroCells z.cells (nc-(b.size+s.size))=c' at hr;have IM:(b++s).size=b.size+s.size:=by simp
  have hlen:(bI b++bI s).length=b.size+s.size:=by rw[List.length_append,cW,cW]
  have Aw:c'.toList.take (b++s).size=bI (b++s):=by
   rw[<- eH,IM,mj,<- hlen];simp only[Array.toList_append];exact List.take_left' rfl
  have oL:c'.size=nc:=by
   rw[<- eH];have:z.cells.size=1:=by omega
   simp only[Array.size_append,List.size_toArray,hlen,size_zeroCells,this];omega
  have Kb:Good cx r m L F st a w.drew:=hg.same rfl rfl rfl rfl;have Ig:Tr F w F w.drew:=Tr.drew _;have yf:Tr F w.drew F (w.drew.alloc (.cells c' el)):=Tr.alloc Kb.heap.fresh _;have pV:=Kb.new d c'.size (.buf el (b++s)) (.cells c' el) (Kb.dH hd) ⟨c',(by show(w.drew.alloc _).heap[if d=d then w.drew.heap.size else L.ρ d]?=_;rw[if_pos rfl];exact heap_alloc_new w.drew _),(by simp),(by omega),Aw⟩;refine⟨_,_,_,F,bp a w base _ cap _ _ cF hr,pV.set (v:=.sl d 1 0 (b++s).size) hd ⟨some ⟨w.drew.heap.size,0,none⟩,nc,(by rw[IM];rfl),(by omega),Nat.one_pos,.inr ⟨(by simp),(by simp[oL])⟩⟩,Tr.trans Ig yf⟩
 split at hk
 ·have eW:=bw hk
  clear hk;obtain⟨hc,hk⟩:=eW;simp only[Bool.and_eq_true]at hc;have h0:=of_decide_eq_true hc.1;have gG:=of_decide_eq_true hc.2;refine⟨_,hk,?_⟩;intro σ cx r m L F st a w he hh hg hd;have cF:a.eval x = .slice none 0 0:=hg.aD (az he hx);obtain⟨v,w',L',F',h1,h2,h3⟩:=grow hg (hd d rfl) none 0 ByteArray.empty cF (by
   have:bI ByteArray.empty = []:=rfl;rw[this];exact run_firstCells_none _ _ 0 0 0) (zl hT hs hh hg (hg.aD (az he hy))) (by simp;omega) (by simp;omega)
  have e0:ByteArray.empty++s=s:=by simp
  rw[e0]at h2;exact⟨v,w',_,h1,.inl rfl,L',F',h2,h3⟩
 ·rename_i id n off len
  split at hk;case h_2=>exact hk.elim
  rename_i tb b hb;obtain⟨hc,dv⟩:=bw hk;clear hk;simp only[Bool.and_eq_true]at hc;obtain⟨Av,hk⟩:=bw dv;clear dv;simp only[Bool.and_eq_true]at Av;have u2:=cT hc.1;have nM:=cT hc.2.1;have uV:=cT hc.2.2;have hlen:=of_decide_eq_true Av.1;have yX:=of_decide_eq_true Av.2.1;have gG:=of_decide_eq_true Av.2.2;subst u2 nM hlen uV;refine⟨_,hk,?_⟩;intro σ cx r m L F st a w he hh hg hd;obtain⟨base,cap,cF,PL,_,PD⟩:=hg.aD (az he hx);rcases PD with⟨U0,_⟩|⟨rfl,PD⟩
  ·omega
  rw[Nat.zero_add,Nat.mul_one]at PD;rw[Nat.zero_mul]at cF;have h0:=hh _ _ hb;obtain⟨c,Ad,oa,Gg,Uy⟩:=hg.heap.obj id _ h0;have oN:=zl hT hs hh hg (hg.aD (az he hy));have IM:(b++s).size=b.size+s.size:=by simp
  have V0:∀ w':World,(∀ x,w'.cell? x=w.cell? x)->(Builtin.firstCells ie.size b.size (.slice (some ⟨L.ρ id,0,none⟩) b.size cap)).run P w' = .ok (bI b).toArray w':=fun w' TS=>by
   rw[EL];refine run_firstCells_some w' 1 b.size _ b.size cap _ (by rw[cW];omega) fun j v hv=>?_;have hj:j<b.size:=by have:=(List.getElem?_eq_some_iff.1 hv).1;rwa [cW]at this
   rw[dV,TS,cell_of_row _ _ _ _ _ _ Ad,Nat.zero_add,<- Array.getElem?_toList,<- hv,<- Uy,List.getElem?_take_of_lt hj]
  by_cases oc:b.size+s.size<=cap
  ·have hr:=run_append_room (P:=P) (ty:=ty) t u tb se kA (by rw[EL];exact oN) oc (b:=L.ρ id) (off:=0) Ad (by rw[EL];omega)
   simp only[EL,Nat.mul_one,Nat.zero_add]at hr;have hL:=Array.length_toList (xs:=c);have Hi:=fe (cs:=c.toList) (l:=bI s) (off:=b.size) (by rw[cW];omega);generalize qP:(c.toList.take b.size++bI s++c.toList.drop (b.size+(bI s).length)).toArray=c' at hr;have ce:c'.toList=c.toList.take b.size++bI s++c.toList.drop (b.size+(bI s).length):=by rw[<- qP]
   have u0:c'.size=c.size:=by rw[<- ce]at Hi;simpa using Hi
   obtain⟨g1,g2⟩:=hg.FE (d:=d) (o:=.buf tb (b++s)) (hg.dH (hd d rfl)) h0 trivial (w':=w.setRow (L.ρ id) c') rfl rfl rfl (size_setRow _ _ _) (fun b hb=>setRow_other _ _ _ _ hb)
    (by rw[Ad];intro ds e;cases e) (by rw[Ad];intro lp e;cases e)
    ⟨c',(by show(w.setRow _ c').heap[if d=d then L.ρ id else L.ρ d]?=_;rw[if_pos rfl];exact setRow_heap _ _ _ _ _ _ Ad),(by rw[u0];simpa using oa),(by omega),(by
     rw[ce,Uy,mj,IM];have e1:b.size+s.size=(bI b++bI s).length:=by rw[List.length_append,cW,cW]
     rw[e1,List.take_left'];rfl)⟩
   exact⟨_,_,_,bp a w _ b.size cap _ _ cF hr,.inl rfl,_,F,g1.set (v:=.sl d 1 0 (b++s).size) (hd d rfl) ⟨_,_,(by rw[IM]),(by omega),Nat.one_pos,.inr ⟨(by simp),(by simp;exact PD)⟩⟩,g2⟩
  ·obtain⟨v,w',L',F',h1,h2,h3⟩:=grow (hg.del id) (hd d rfl) _ cap b cF (V0 w.drew fun _=>rfl) oN (by omega) gG
   exact⟨v,w',_,h1,.inl rfl,L',F',h2,h3⟩
 ·exact hk.elim
theorem AU(hT:aY P T){args:Array Operand}{tys:Array TypeId}(hk:dy T e h dst .append args tys K):∃ ws,K ws/\Out P e h ⟨dst,.call ⟨.builtin .append,args,tys⟩,ty,pos,after,guard⟩ ws:=by
 simp only[dy]at hk;split at hk;case h_2=>exact hk.elim
 rename_i x y t u ct y6;split at hk
 ·exact HC hT ct y6 hk
 split at hk;case h_2=>exact hk.elim
 rename_i ui Ly;replace hk:=Ct hk;unfold sX at hk;split at hk;case h_2=>exact hk.elim
 rename_i v uv ei d hx hy ic;split at hk;case h_2=>exact hk.elim
 rename_i fs vP;obtain⟨ec,hk⟩:=bw hk;obtain⟨el,se,GY⟩:=jl hT ic;obtain⟨Vs,Hk,_⟩:=jl hT Ly;obtain⟨ie,z,kA,hz,cM,BR,dA,oK,I0⟩:=pG hT GY ec;have bp:∀ (a:Act) (w:World) (b:Option Addr) (l c:Nat) (v:Value) (w':World),a.eval x = .slice b l c->(Builtin.append_ #[t,u] ty #[.slice b l c,a.eval y]).run P w = .ok v w' ->
   (execOp a.eval ⟨some d,.call ⟨.builtin .append,args,tys⟩,ty,pos,after,guard⟩).run P w = .ok (.value v) w':=fun a w b l c v w' cF hv=>by
  have h1:args.map a.eval = #[.slice b l c,a.eval y]:=by
   apply Array.ext';simp[ct,cF]
  have h2:tys = #[t,u]:=by
   apply Array.ext';simp[y6]
  simp[execOp,resolve,invoke,builtin,h1,h2,hv]
 unfold sJ at hk;split at hk
 ·obtain⟨hc,hk⟩:=bw hk
  simp only[Bool.and_eq_true]at hc;obtain⟨J9,gd⟩:=hc;obtain⟨gG,hk⟩:=bw hk;have gG:=of_decide_eq_true gG;refine⟨_,hk,?_⟩;intro σ cx r m L F st a w he hh hg hd;have cF:a.eval x = .slice none 0 0:=hg.aD (az he hx);have xw:=xb J9;obtain⟨ay,cap,news,Hp,jA,Gm,iZ,tB⟩:=pJ hh hg.heap vP (hg.aD (az he hy)) (fun e he=>(xw e he).1) cM;have h1:=Gm.one (eK fun e he=>(xw e he).2);have oN:Src P ie.size u (a.eval y) fs.a5.length news w:=by
   rw[Hp,<- dA];exact Ba Hk iZ (tB.imp (fun h=>by rw[h];rfl) fun h=>h) h1
  have Au:((aI.dd []).app fs).a5=fs.a5:=by rw[aI.wU];rfl
  have DI:(aI.dd []).len+fs.len=fs.a5.length:=by rw[aI.hP,aI.hP];simp[aI.a5,cw]
  rw[DI]at gG;rw[DI,dA];by_cases h0:fs.a5 = []
  ·have pg:fs.a5.length=0:=by rw[h0];rfl
   have Gl:news = []:=List.length_eq_zero_iff.1 (by rw[iZ,pg];simp);rw[pg,Gl]at oN;have hr:=iO (P:=P) t u ty el se kA (base:=none) (sLen:=0) (sCap:=0) oN (Nat.le_refl _);have pV:=hg.jI d ie.size (hg.dH (hd d rfl)) (by rw[<- dA];exact cM) ((aI.dd []).app fs) (by rw[Au,h0]);exact⟨_,_,_,bp a w none 0 0 _ _ cF hr,.inl rfl,_,F,pV.set (v:=.sl d ie.size 0 fs.a5.length) (hd d rfl) ⟨none,0,(by rw[pg]),(by rw[pg];exact Nat.le_refl _),(by rw[<- dA];exact cM),.inl ⟨pg,rfl⟩⟩,Tr.refl F w⟩
  ·have yX:0<fs.a5.length:=Nat.pos_of_ne_zero fun e=>h0 (List.length_eq_zero_iff.1 e)
   have:=ru (P:=P) (ty:=ty) (tx:=u) (x:=a.eval y) hg (hd d rfl) se kA hz I0 (by omega) (by omega) (base:=none) (len:=0) (cap:=0) (n:=fs.a5.length) (olds:=[]) (news:=news) (fun w' _=>run_firstCells_none w' ie.size 0 0 0) (by simp) oN (by omega) (by rw[Nat.zero_add,<- oK];exact gG)
    (es:=(aI.dd []).app fs) (by rw[Au];simp) (by rw[Au,<- dA];exact fun e he=>(xw e he).1) (by rw[Au];exact Gm) (mN gd)
   obtain⟨v,w',L',F',hv,pV,tr⟩:=this;rw[Nat.zero_add]at pV;exact⟨v,w',_,bp a w none 0 0 v w' cF hv,.inl rfl,L',F',pV,tr⟩
 ·rename_i id n off len _
  split at hk;case h_2=>exact hk.elim
  rename_i mm vA N5;obtain⟨hc,dv⟩:=bw hk;clear hk;simp only[Bool.and_eq_true]at hc;obtain⟨⟨⟨u2,yU⟩,hle⟩,nM⟩:=hc;have u2:=cT u2;have yU:=cT yU;have hle:=kO hle;have nM:=cT nM;rw[aI.hP]at hle;obtain⟨hc,ji⟩:=bw dv;clear dv;simp only[Bool.and_eq_true]at hc;obtain⟨J9,gd⟩:=hc;obtain⟨gG,hk⟩:=bw ji;have gG:=of_decide_eq_true gG;refine⟨_,hk,?_⟩;intro σ cx r m L F st a w he hh hg hd;subst u2 nM;rw[yU]at N5;clear yU;obtain⟨base,cap,cF,PL,_,hb⟩:=hg.aD (az he hx);have xw:=xb J9;have h0:=hh _ _ N5;obtain⟨_,fv,gf⟩:=hg.heap.obj id _ h0;obtain⟨ay,LQ,news,Hp,NX,Gm,iZ,tB⟩:=pJ hh hg.heap vP (hg.aD (az he hy)) (fun e he=>(xw e he).1) cM;have h1:=Gm.one (eK fun e he=>(xw e he).2);have oN:Src P ie.size u (a.eval y) fs.a5.length news w:=by
   rw[Hp,<- dA];exact Ba Hk iZ (tB.imp (fun h=>by rw[h];rfl) fun h=>h) h1
  have qA:(vA.part 0 len).a5=vA.a5.take len:=by rw[aI.m7];rfl
  have Ot:(vA.part 0 len).a5.length=len:=by rw[qA];simp;omega
  have Au:((vA.part 0 len).app fs).a5=vA.a5.take len++fs.a5:=by rw[aI.wU,qA]
  have DI:(vA.part 0 len).len+fs.len=len+fs.a5.length:=by rw[aI.hP,aI.hP,Ot]
  have yM:((vA.part 0 len).app fs).a5.length=len+fs.a5.length:=by rw[aI.wU,List.length_append,Ot]
  have Ks:cy ei.size (vA.a5.take len):=fun e he=>fv e (List.mem_of_mem_take he);have yN:cy ei.size ((vA.part 0 len).app fs).a5:=by
   rw[Au];intro e he;rcases List.mem_append.1 he with he|he
   ·exact Ks e he
   ·exact(xw e he).1
  rw[DI]at gG;rw[DI];have hold:∃ olds,(∀ w':World,(∀ x,w'.cell? x=w.cell? x)->(Builtin.firstCells ie.size len (.slice base len cap)).run P w' = .ok olds.toArray w')/\ak cx.yv L F w (vA.a5.take len).flatten olds/\olds.length=len*ie.size:=by
   rw[<- dA];by_cases DI:len=0
   ·subst DI
    refine⟨[],fun w' _=>?_,by simp[ak],by simp⟩
    cases base with
    | none=>exact run_firstCells_none w' _ 0 0 cap
    | some ad=>exact run_firstCells_some w' _ 0 ad 0 cap [] (by simp) (by simp)
   ·rcases hb with⟨h0,_⟩|⟨rfl,hb⟩
    ·omega
    rcases gf with⟨he,_⟩|⟨l,E,iF,eW,EZ,AE⟩
    ·rw[he]at hle;simp at hle;omega
    have Ti:len*ei.size<=vA.a5.length*ei.size:=Nat.mul_le_mul_right _ hle;refine⟨(l.toList.take (vA.a5.length*ei.size)).take (len*ei.size),fun w' TS=>run_firstCells_some w' _ len _ len cap _ (by simp;omega) fun j v hv=>?_,by rw[fm _ fv];exact AE.take _,by simp;omega⟩;rw[dV,TS,cell_of_row _ _ _ _ _ _ iF];have hj:j<len*ei.size:=by have:=(List.getElem?_eq_some_iff.1 hv).1;simp at this;omega
    rw[List.getElem?_take_of_lt hj,List.getElem?_take_of_lt (by omega)]at hv;simpa using hv
  obtain⟨olds,hold,Oo,BU⟩:=hold;have IL:ak cx.yv L F w ((vA.part 0 len).app fs).a5.flatten (olds++news):=by
   rw[Au,List.flatten_append];exact Oo.append Gm
  have EH:=hg.del id;by_cases oc:len+fs.a5.length<=cap
  ·rcases hb with⟨nY,uR⟩|⟨rfl,hb⟩
   ·
    have pg:fs.a5.length=0:=by omega
    have Gl:news = []:=List.length_eq_zero_iff.1 (by rw[iZ,pg];simp);rw[pg,Gl]at oN;have hr:=iO (P:=P) t u ty el se kA (base:=base) (sLen:=len) (sCap:=cap) oN PL;have CR:((vA.part 0 len).app fs).a5 = []:=List.length_eq_zero_iff.1 (by rw[yM];omega);have pV:=EH.jI d ei.size (EH.dH (hd d rfl)) cM ((vA.part 0 len).app fs) CR;exact⟨_,_,_,bp a w base len cap _ _ cF hr,.inl rfl,_,F,pV.set (v:=.sl d ei.size 0 (len+fs.a5.length)) (hd d rfl) ⟨base,cap,(by rw[pg];rfl),(by omega),cM,.inl ⟨(by omega),uR⟩⟩,Tr.refl F w⟩
   ·by_cases NW:cap=0
    ·
     have pg:fs.a5.length=0:=by omega
     have Gl:news = []:=List.length_eq_zero_iff.1 (by rw[iZ,pg];simp);rw[pg,Gl]at oN;have hr:=iO (P:=P) t u ty el se kA (base:=some ⟨L.ρ id,0*ei.size,none⟩) (sLen:=len) (sCap:=cap) oN PL;have CR:((vA.part 0 len).app fs).a5 = []:=List.length_eq_zero_iff.1 (by rw[yM];omega);have pV:=EH.jI d ei.size (EH.dH (hd d rfl)) cM ((vA.part 0 len).app fs) CR;exact⟨_,_,_,bp a w _ len cap _ _ cF hr,.inl rfl,_,F,pV.set (v:=.sl d ei.size 0 (len+fs.a5.length)) (hd d rfl) ⟨_,cap,(by rw[pg];rfl),(by omega),cM,.inl ⟨(by omega),NW⟩⟩,Tr.refl F w⟩
    ·
     rw[Nat.zero_add]at hb;have hκ:L.κ id≠0:=by
      have:0<cap*ei.size:=Nat.mul_pos (by omega) cM;omega
     rcases gf with⟨_,Ay⟩|⟨l,E,iF,eW,EZ,AE⟩
     ·exact absurd Ay hκ
     have hr:=run_append_room (P:=P) (ty:=ty) t u el se kA oN oc (b:=L.ρ id) (off:=0*ei.size) iF (by rw[eW,<- dA];simpa using hb);simp only[Nat.zero_mul,Nat.zero_add]at hr cF;have Kz:(len+fs.a5.length)*ei.size<=cap*ei.size:=Nat.mul_le_mul_right _ oc;rw[Nat.add_mul]at Kz;have Tp:news.length=fs.a5.length*ei.size:=iZ;have Wf:len*ie.size=len*ei.size:=by rw[dA]
     have hL:=Array.length_toList (xs:=l);have Hi:=fe (cs:=l.toList) (l:=news) (off:=len*ie.size) (by omega);generalize qP:(l.toList.take (len*ie.size)++news++l.toList.drop (len*ie.size+news.length)).toArray=c' at hr;have ce:c'.toList=l.toList.take (len*ie.size)++news++l.toList.drop (len*ie.size+news.length):=by rw[<- qP]
     have u0:c'.size=l.size:=by rw[<- ce]at Hi;simpa using Hi
     have tr:Tr F w F (w.setRow (L.ρ id) c'):=
      .gM rfl rfl rfl (by simp) (fun _=>Nat.le_refl _) hg.heap.fresh fun b _ hF=>setRow_other _ _ _ _ (by rintro rfl;have:=(hg.heap.own id _ h0 hκ).1;omega)
     have Ws:olds=l.toList.take (len*ie.size):=by
      have h2:=hold w (fun _=>rfl);have Ti:len*ei.size<=vA.a5.length*ei.size:=Nat.mul_le_mul_right _ hle;have h3:=run_firstCells_some (P:=P) w ie.size len ⟨L.ρ id,0*ei.size,none⟩ len cap (l.toList.take (len*ie.size)) (by rw[List.length_take,Array.length_toList,<- dA];omega) (fun j v hv=>by
       rw[dV,cell_of_row _ _ _ _ _ _ iF];have hj:j<len*ie.size:=by have:=(List.getElem?_eq_some_iff.1 hv).1;rw[List.length_take]at this;omega
       rw[List.getElem?_take_of_lt hj]at hv;simpa using hv)
      rw[h3]at h2;simp only[Result.ok.injEq,and_true]at h2;have:=congrArg Array.toList h2;simpa using this.symm
     obtain⟨g1,g2⟩:=hg.FE (d:=d) (o:=.arr ei.size ((vA.part 0 len).app fs)) (hg.dH (hd d rfl)) h0 hκ (w':=w.setRow (L.ρ id) c') rfl rfl rfl (size_setRow _ _ _) (fun b hb=>setRow_other _ _ _ _ hb)
      (by rw[iF];intro ds e;cases e) (by rw[iF];intro lp e;cases e)
      ⟨cM,yN,.inr ⟨c',E,(by show(w.setRow _ c').heap[if d=d then L.ρ id else L.ρ d]?=_;rw[if_pos rfl];exact setRow_heap _ _ _ _ _ _ iF),(by rw[u0,eW];simp),(by rw[yM,u0,eW,Nat.add_mul];omega),(by
       rw[yM,ce];have e1:(len+fs.a5.length)*ei.size=(l.toList.take (len*ie.size)++news).length:=by
        rw[List.length_append,List.length_take,Tp,Nat.add_mul];omega
       rw[e1,List.take_left',<- Ws]
       ·exact ak.jJ (L:=L) tr (fun i hi=>by simp[hi]) (mN gd) IL
       ·rfl)⟩⟩
     exact⟨_,_,_,bp a w _ len cap _ _ cF hr,.inl rfl,_,F,g1.set (v:=.sl d ei.size 0 (len+fs.a5.length)) (hd d rfl) ⟨_,_,rfl,oc,cM,.inr ⟨(by simp),(by simp;exact hb)⟩⟩,g2⟩
  ·have:=ru (P:=P) (ty:=ty) (tx:=u) (x:=a.eval y) EH (hd d rfl) se kA hz I0 (by omega) (by omega) (base:=base) (len:=len) (cap:=cap) (n:=fs.a5.length) (olds:=olds) (news:=news) hold BU oN (by omega) (by rw[<- oK];exact gG)
    (es:=(vA.part 0 len).app fs) yM (by rw[<- dA];exact yN) IL (mN gd)
   obtain⟨v,w',L',F',hv,pV,tr⟩:=this;rw[<- dA]at pV;exact⟨v,w',_,bp a w base len cap v w' cF hv,.inl rfl,L',F',pV,tr⟩
 ·exact hk.elim
end
theorem nF:∀ {xs ys:List D} {r:Bool},ck xs ys=some r->xs.length=ys.length
 | [],[],_,_=>rfl
 | [],_::_,_,h=>by simp[ck]at h
 | _::_,[],_,h=>by simp[ck]at h
 | a::xs,b::ys,r,h=>by
  simp only[ck]at h;split at h
  ·rename_i hq;simp[nF hq]
  ·cases h
theorem nb:∀ {xs ys:List D} {r:Bool} (n:Nat),ck xs ys=some r -> ∃ p q,ck (xs.take n) (ys.take n)=some p/\ck (xs.drop n) (ys.drop n)=some q/\r=(p&&q)
 | xs,ys,r,0,h=>⟨true,r,by simp[ck],h,by simp⟩
 | [],[],r,n+1,h=>⟨true,r,by simp[ck],h,by simp⟩
 | [],_::_,_,_+1,h=>by simp[ck]at h
 | _::_,[],_,_+1,h=>by simp[ck]at h
 | a::xs,b::ys,r,n+1,h=>by
  simp only[ck]at h;split at h;case h_2=>cases h
  rename_i p q hp hq;cases h;obtain⟨p',q',h1,h2,rfl⟩:=nb n hq;exact⟨p&&p',q',by simp[ck,hp,h1],by simpa using h2,by rw[Bool.and_assoc]⟩
theorem A7{a b:D}(h:rV a b=some true):a=b:=by
 unfold rV at h;split at h
 ·split at h
  ·rename_i he
   rw[of_decide_eq_true he,of_decide_eq_true (Option.some.inj h)]
  ·cases h
 ·cases h
theorem A6{a b:D}(h:mw a b=some true):a=b:=by
 unfold mw at h;split at h
 ·split at h
  ·rename_i he
   rw[of_decide_eq_true he,of_decide_eq_true (Option.some.inj h)]
  ·cases h
 ·rename_i a b
  cases a<;>cases b<;>simp_all
 ·split at h
  ·rename_i ht
   rw[Nat.eq_of_beq_eq_true ht,A7 h]
  ·cases h
  ·cases h
 ·cases h
theorem uB:∀ {xs ys:List D},ck xs ys=some true->xs=ys
 | [],[],_=>rfl
 | [],_::_,h=>by simp[ck]at h
 | _::_,[],h=>by simp[ck]at h
 | a::xs,b::ys,h=>by
  simp only[ck]at h;split at h;case h_2=>cases h
  rename_i p q hp hq;simp only[Option.some.injEq,Bool.and_eq_true]at h;obtain⟨rfl,rfl⟩:=h;rw[uB hq]
  congr 1
  exact A6 hp
section
variable {P : Program} {T : dJ} {F : Nat -> Nat} {w : World}
theorem q9{xs ys:List D}{r:Bool}(hl:xs.length=1)(h:ck xs ys=some r):∃ a b,xs = [a]/\ys = [b]/\mw a b=some r:=by
 have Gj:=nF h;obtain⟨a,rfl⟩:=List.length_eq_one_iff.1 hl;obtain⟨b,rfl⟩:=List.length_eq_one_iff.1 (by rw[<- Gj];rfl);refine⟨a,b,rfl,rfl,?_⟩;simp only[ck]at h;split at h
 ·rename_i hp hq
  cases hq;simpa[hp]using h
 ·cases h
theorem wy{k:IntKind}{a:Int}{b:D}{r:Bool}(h:rV (.int k a) b=some r):∃ c,b = .int k c/\r=decide (a=c):=by
 unfold rV at h;split at h
 ·rename_i k1 a1 k2 b1 e
  cases e;split at h
  ·rename_i he
   have:=of_decide_eq_true he;subst this;exact⟨_,rfl,(Option.some.inj h).symm⟩
  ·cases h
 ·cases h
theorem E7{N:Nat}{t:TypeId}{k0 k:IntKind}(fq:P.underlying t=some (.int k0)){a c:Int}:(Op.equalIn (N+1) t (.int k a) (.int k c)).run P w = .ok (decide (a=c)) w:=
 (run_equalIn_int w N t _ _ _ _ fq).trans (by simp;rfl)
theorem jv{N:Nat}{t:TypeId}{dk:TypeDesc}(fq:P.underlying t=some dk)(xu:(∃ k,dk = .int k)\/dk = .bool){x:Value}(em:Bool):(Instr.checkKey em (N+1) t x).run P w = .ok () w:=by
 unfold Instr.checkKey;rcases xu with⟨k,rfl⟩|rfl<;>simp[run_underlying fq]
def wN(P:Program)(T:dJ)(F:Nat->Nat)(w:World)(N d:Nat)(t:TypeId)(n:Nat):Prop:=
 (∃ ti,T.get t=some ti/\ti.size=n) /\ ∀ (xs ys:List D) (r:Bool),xs.length=n->nK T d t xs=true->ck xs ys=some r -> ∀ x y,mJ T F w t xs x->mJ T F w t ys y ->
  (Op.equalIn N t x y).run P w = .ok r w /\ ∀ em,(Instr.checkKey em N t x).run P w = .ok () w
theorem fH{α:Type}(xs:List α){n c m:Nat}(h:n+c<=m) :
  (((xs.drop n).take (m-n)).take c=(xs.drop n).take c)/\(((xs.drop n).take (m-n)).drop c=(xs.drop (n+c)).take (m-(n+c))):=by
 constructor
 ·rw[List.take_take,Nat.min_eq_left (by omega)]
 ·rw[List.drop_take,List.drop_drop]
  congr 1
  omega
theorem pL (hT : aY P T) {N d : Nat} {f : TypeId -> Option Nat} (hf : ∀ t c, f t = some c -> wN P T F w N d t c) : ∀ (fs : List Field), (∀ f ∈ fs, (f.name == "_") = false) -> ∀ (n m : Nat), mQ f (fs.map fun f => (f.offset, f.type)) n = some m ->
  n<=m /\ ∀ (xs ys:List D) (r:Bool) (lx ly:Array Value),aN F w xs lx.toList->aN F w ys ly.toList->vE T (fun t xs=>nK T d t xs) (fs.map fun f=>(f.offset,f.type)) xs=true->m<=xs.length->m<=ys.length->ck ((xs.drop n).take (m-n)) ((ys.drop n).take (m-n))=some r ->
   (Op.eqFields N lx ly fs).run P w = .ok r w /\
   ∀ em, (forIn (m := Sem) fs PUnit.unit fun f _ => (if f.name ≠ "_" then do
     Instr.checkKey em N f.type (<- part f.type lx f.offset)
     pure (ForInStep.yield PUnit.unit)
    else pure (ForInStep.yield PUnit.unit))).run P w = .ok PUnit.unit w
 | [],_,n,m,h=>by
  simp only[List.map_nil,mQ,Option.some.injEq]at h;subst h;refine⟨Nat.le_refl _,fun xs ys r lx ly _ _ _ _ _ h=>?_⟩;simp[ck]at h;subst h;simp[Op.eqFields]
 | g::fs,tI,n,m,h=>by
  simp only[List.map_cons,mQ]at h;split at h;case h_2=>cases h
  rename_i c nM hc;have nM:=cT nM;obtain⟨⟨ti,eC,cM⟩,ec⟩:=hf _ _ hc;obtain⟨hle,EV⟩:=pL hT hf fs (fun g hg=>tI g (List.mem_cons_of_mem _ hg)) _ _ h;refine⟨by omega,fun xs ys r lx ly pf qR DH TT WO hs=>?_⟩;simp only[List.map_cons,vE,eC]at DH;split at DH;case h_2=>cases DH
  rename_i dv;obtain⟨p,q,hp,hq,rfl⟩:=nb (c+1) hs;rw[(fH xs hle).1,(fH ys hle).1]at hp;rw[(fH xs hle).2,(fH ys hle).2]at hq;have Hj:ti.size=c+1:=cM;obtain⟨x,hx,Hm⟩:=iC (F:=F) (w:=w) hT eC pf (off:=g.offset) (by omega) (by omega);obtain⟨y,hy,Hn⟩:=iC (F:=F) (w:=w) hT eC qR (off:=g.offset) (by omega) (by omega);rw[Hj,nM]at Hm Hn;rw[Hj,nM]at dv;obtain⟨h1,h2⟩:=ec _ _ p (by simp;omega) dv hp x y Hm Hn;obtain⟨h3,h4⟩:=EV xs ys q lx ly pf qR DH TT WO hq
  have PM : g.name ≠ "_" := by
   have:=tI g (List.mem_cons_self ..);simpa using this
  refine⟨?_,fun em=>?_⟩
  ·simp only[Op.eqFields,PM,ne_eq,not_false_eq_true,if_true,Sem.run_bind,hx,hy,Result.andThen_ok,h1]
   cases p
   ·simp
   ·simp[h3]
  ·simp only[List.forIn_cons,Sem.run_bind,PM,ne_eq,not_false_eq_true,if_true,Result.andThen_ok,hx,h2 em,Sem.run_pure]
   exact h4 em
theorem pM(hT:aY P T){N d:Nat}{e:TypeId}{c:Nat}(he:wN P T F w N d e (c+1)):∀ (n i:Nat) (xs ys:List D) (r:Bool) (lx ly:Array Value),aN F w xs lx.toList->aN F w ys ly.toList->vF (fun xs=>nK T d e xs) (c+1) n (xs.drop (i*(c+1)))=true->xs.length=(i+n)*(c+1)->ys.length=(i+n)*(c+1) ->
  ck (xs.drop (i*(c+1))) (ys.drop (i*(c+1)))=some r ->
   (Op.eqItems N e (c+1) lx ly (List.range' i n)).run P w = .ok r w /\
   ∀ em,(forIn (m:=Sem) (List.range' i n) PUnit.unit fun j _=>(do
    Instr.checkKey em N e (<- part e lx (j*(<- sizeOf e)))
    pure (ForInStep.yield PUnit.unit))).run P w = .ok PUnit.unit w
 | 0,i,xs,ys,r,lx,ly,pf,qR,_,Af,E5,hs=>by
  have e1:xs.drop (i*(c+1)) = []:=List.drop_eq_nil_of_le (by rw[Af];simp);have e2:ys.drop (i*(c+1)) = []:=List.drop_eq_nil_of_le (by rw[E5];simp);rw[e1,e2]at hs;simp only[ck,Option.some.injEq]at hs;subst hs;simp[Op.eqItems]
 | n+1,i,xs,ys,r,lx,ly,pf,qR,DH,Af,E5,hs=>by
  simp only[vF]at DH;split at DH;case h_2=>cases DH
  rename_i dv;obtain⟨⟨ti,eC,cM⟩,ec⟩:=he;have e1:(i+1)*(c+1)=i*(c+1)+(c+1):=Nat.succ_mul _ _;have e2:(i+(n+1))*(c+1)=i*(c+1)+n*(c+1)+(c+1):=by rw[Nat.add_mul,Nat.succ_mul];omega
  have e3:(i+1+n)=i+(n+1):=by omega
  obtain⟨p,q,hp,hq,rfl⟩:=nb (c+1) hs;obtain⟨x,hx,Hm⟩:=iC (F:=F) (w:=w) hT eC pf (off:=i*(c+1)) (by omega) (by omega);obtain⟨y,hy,Hn⟩:=iC (F:=F) (w:=w) hT eC qR (off:=i*(c+1)) (by omega) (by omega);rw[cM]at Hm Hn;obtain⟨h1,h2⟩:=ec _ _ p (by simp;omega) dv hp x y Hm Hn;rw[List.drop_drop,List.drop_drop,<- e1]at hq;rw[List.drop_drop,<- e1]at DH;obtain⟨h3,h4⟩:=pM hT ⟨⟨ti,eC,cM⟩,ec⟩ n (i+1) xs ys q lx ly pf qR DH (by rw[e3];exact Af) (by rw[e3];exact E5) hq;have dA:(sizeOf e).run P w = .ok (c+1) w:=by rw[<- cM];exact dp hT eC
  refine⟨?_,fun em=>?_⟩
  ·simp only[List.range'_succ,Op.eqItems,Sem.run_bind,hx,hy,Result.andThen_ok,h1]
   cases p
   ·simp
   ·simp[h3]
  ·simp only[List.range'_succ,List.forIn_cons,Sem.run_bind,dA,Result.andThen_ok,hx,h2 em,Sem.run_pure]
   exact h4 em
theorem oF(hT:aY P T):∀ (d:Nat) (t:TypeId) (n:Nat),flat T d t=some n -> ∀ N,d<=N->wN P T F w N d t n
 | 0,_,_,h,_,_=>by simp[flat]at h
 | d+1,t,n,h,0,hN=>by omega
 | d+1,t,n,h,N+1,hN=>by
  simp only[flat]at h;split at h
  ·cases h
  rename_i ti eC;obtain⟨i,de,hi,fq,_,_,da,mF,Oa,_⟩:=hT t ti eC;split at h
  ·rename_i k hk
   have e:=kY (da▸hk);subst e;split at h;case h_2=>cases h
   rename_i uU;cases h;refine⟨⟨ti,eC,cT uU⟩,fun xs ys r hl tH hs x y hx hy=>?_⟩;obtain⟨a,b,rfl,rfl,Ac⟩:=q9 hl hs;have jU:=hx ti eC;have lS:=hy ti eC;rw[mF]at jU lS;have ex:=jU _ rfl;have ey:=lS _ rfl;simp only[nK,eC,hk]at tH;split at tH;case h_2=>cases tH
   rename_i k1 a1 e1;cases e1;obtain⟨c,rfl,rfl⟩:=wy (k:=k1) (a:=a1) (b:=b) (r:=r) (by revert Ac;cases b<;>simp[mw,rV]);cases ex;cases ey
   exact⟨E7 fq,fun em=>jv fq (.inl ⟨_,rfl⟩) em⟩
  ·rename_i hk
   have e:=ny (da▸hk);subst e;split at h;case h_2=>cases h
   rename_i uU;cases h;refine⟨⟨ti,eC,cT uU⟩,fun xs ys r hl tH hs x y hx hy=>?_⟩;obtain⟨a,b,rfl,rfl,Ac⟩:=q9 hl hs;have jU:=hx ti eC;have lS:=hy ti eC;rw[mF]at jU lS;have ex:=jU _ rfl;have ey:=lS _ rfl;simp only[nK,eC,hk]at tH;split at tH;case h_2=>cases tH
   rename_i a1 e1;cases e1;cases b<;>simp only[mw]at Ac<;>try (cases Ac;done)
   cases ex;cases ey
   refine⟨?_,fun em=>jv fq (.inr rfl) em⟩;rw[Op.equalIn];simp only[Sem.run_bind,run_underlying fq,Result.andThen_ok,Sem.run_pure];rw[Option.some.inj Ac]
  ·rename_i hk
   obtain⟨ms,e⟩:=tQ (da▸hk);subst e;split at h;case h_2=>cases h
   rename_i d' uU;cases h;refine⟨⟨ti,eC,cT uU⟩,fun xs ys r hl tH hs x y hx hy=>?_⟩;obtain⟨a,b,rfl,rfl,Ac⟩:=q9 hl hs;have jU:=hx ti eC;have lS:=hy ti eC;rw[mF]at jU lS;have ex:=jU _ rfl;have ey:=lS _ rfl;simp only[nK,eC,hk]at tH;split at tH;case h_2=>cases tH
   rename_i u k a1 e1;cases e1;split at tH;case h_2=>cases tH
   rename_i ui Ly;split at tH;case h_2=>cases tH
   rename_i k' dv G2;have:=of_decide_eq_true tH;subst this;obtain⟨iu,du,Lq,PF,_,_,Td,_,S7,_⟩:=hT u ui Ly;have eu:=kY (Td.symm.trans dv);subst eu;have N1:=(S7 G2).2 k dv;obtain⟨N',rfl⟩:∃ N',N=N'+1:=⟨N-1,by omega⟩;obtain⟨v,rfl,hv⟩:=ex;have hv:v = .int k a1:=hv;subst hv;refine⟨?_,fun em=>?_⟩
   ·cases b<;>simp only[mw]at Ac<;>try (cases Ac;done)
    rename_i u' b1;obtain⟨v',rfl,Hl⟩:=ey;split at Ac
    ·rename_i hu
     have:=Nat.eq_of_beq_eq_true hu;subst this;obtain⟨c,rfl,rfl⟩:=wy Ac;have Hl:v' = .int k c:=Hl;subst Hl;rw[Op.equalIn];simp only[Sem.run_bind,run_underlying fq,Result.andThen_ok];simp[typeInfo,Lq,N1,Sem.run_bind,E7 PF]
    ·rename_i hu hn
     cases Ac;have eX:u≠u':=by rintro rfl;simp at hu
     rw[Op.equalIn];simp only[Sem.run_bind,run_underlying fq,Result.andThen_ok];simp[eX]
    ·cases Ac
   ·rw[Instr.checkKey]
    simp only[Sem.run_bind,run_underlying fq,Result.andThen_ok];simp[typeInfo,Lq,N1,jv PF (.inl ⟨_,rfl⟩)]
  ·rename_i fs hk
   obtain⟨fa,rfl,rfl,tI⟩:=gh (da▸hk);split at h;case h_2=>cases h
   rename_i m EK hm;split at h;case h_2=>cases h
   rename_i uU;cases h;have Ax:P.stoodInHeld t=false:=(Oa EK).1;refine⟨⟨ti,eC,cT uU⟩,fun xs ys r hl tH hs x y hx hy=>?_⟩;simp only[nK,eC,hk]at tH;have Gj:=nF hs;have jU:=hx ti eC;have lS:=hy ti eC;rw[mF]at jU lS;simp only[px,if_true]at jU lS;obtain⟨lx,rfl,pf⟩:=jU;obtain⟨ly,rfl,qR⟩:=lS;obtain⟨_,hF⟩:=pL (P:=P) (F:=F) (w:=w) hT (N:=N) (fun t c h=>oF hT d t c h N (by omega)) fa.toList tI 0 _ hm;obtain⟨h1,h2⟩:=hF xs ys r lx ly pf qR tH (by omega) (by omega) (by
    simp only[List.drop_zero,Nat.sub_zero];rw[List.take_of_length_le (by omega),List.take_of_length_le (by omega)];exact hs)
   have xw:P.fieldsOf t=fa:=by simp[Program.fieldsOf,fq]
   refine⟨by rw[run_equalIn_struct w N t lx ly (by rw[xw];exact fq) Ax,xw];exact h1,fun em=>?_⟩;rw[Instr.checkKey];simp only[Sem.run_bind,run_underlying fq,Result.andThen_ok];rw[<- Array.forIn_toList];rw[h2 em];rfl
  ·rename_i m e hk
   have e':=er (da▸hk);subst e';split at h;case h_2=>cases h
   rename_i c hc;split at h;case h_2=>cases h
   rename_i uU;cases h;refine⟨⟨ti,eC,cT uU⟩,fun xs ys r hl tH hs x y hx hy=>?_⟩;simp only[nK,eC,hk]at tH;have Gj:=nF hs;have jU:=hx ti eC;have lS:=hy ti eC;rw[mF]at jU lS;simp only[px,if_true]at jU lS;obtain⟨lx,rfl,pf⟩:=jU;obtain⟨ly,rfl,qR⟩:=lS;have he:=oF hT d e (c+1) hc N (by omega);obtain⟨Xa,VU⟩:∃ ei,T.get e=some ei:=by obtain⟨⟨ei,ic,_⟩,_⟩:=he;exact⟨ei,ic⟩
   obtain⟨h1,h2⟩:=pM hT he m 0 xs ys r lx ly pf qR (by
    obtain⟨⟨ei,ic,J5⟩,_⟩:=he;simp only[ic,J5]at tH;simpa using tH) (by rw[Nat.zero_add];exact hl) (by rw[Nat.zero_add,<- Gj];exact hl) (by simpa using hs)
   obtain⟨⟨ei,ic,J5⟩,_⟩:=he;obtain⟨ie,_,kA,_,dA,_⟩:=hT e ei ic;have N0:P.cellsOf e=c+1:=by simp[Program.cellsOf,kA,<- dA,J5]
   refine⟨by rw[run_equalIn_array w N lx ly fq kA,N0,List.range_eq_range'];exact h1,fun em=>?_⟩;rw[Instr.checkKey];simp only[Sem.run_bind,run_underlying fq,Result.andThen_ok];simp only[Std.Legacy.Range.forIn_eq_forIn_range',Std.Legacy.Range.size,Nat.sub_zero,Nat.add_one_sub_one,Nat.div_one];rw[h2 em];rfl
  ·cases h
end
end Go.PX
