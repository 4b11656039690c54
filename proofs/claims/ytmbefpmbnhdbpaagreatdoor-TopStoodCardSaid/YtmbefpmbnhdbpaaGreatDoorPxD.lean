import Derived.Test.YtmbefpmbnhdbpaaGreatDoorPxC
import Derived.Deep.AppendSrc
import Derived.ChangeKeysEq
set_option linter.all false
namespace Go.PX
open Go.RowKit
section
variable {σ : Type} {cx : Cx σ} {r : Option Nat} {m : List Nat} {L : Loc} {F : Nat -> Nat} {st : St σ} {a : Act} {w : World}
theorem Good.MJ(hh:Good cx r m L F st a w){id d:Nat}{o0 o:Obj}(hpd:¬ pinned d)(h0:get st.heap id=some o0)(iN:aV L id o0){w':World}
  (SJ:w'.os=w.os) (ht:w'.tape=w.tape) (hu:w'.output=w.output) (dc:w'.heap.size=w.heap.size) (hk:∀ b,b≠L.ρ id->w'.heap[b]?=w.heap[b]?)
  (tZ:∀ ds,w.heap[L.ρ id]?≠some (.deferred ds)) (nt:∀ lp,w.heap[L.ρ id]?≠some (.loop lp))
  (ho:cb cx.yv ⟨fun i=>if i=d then L.ρ id else L.ρ i,fun i=>if i=d then L.κ id else L.κ i⟩ F w' d o) :
  Good cx r m ⟨fun i=>if i=d then L.ρ id else L.ρ i,fun i=>if i=d then L.κ id else L.κ i⟩ F (bP (bP st (.del id)) (.new d o)) a w'/\Tr F w F w':=by
 obtain⟨hF,Rl⟩:=hh.heap.own id o0 h0 iN;have tr:Tr F w F w':=.iI SJ ht hu (by omega) (fun _=>Nat.le_refl _) hh.heap.fresh fun b _ YO=>hk b (by rintro rfl;omega);have hC:∀ c,cx.C st.s c->w'.heap[c]?=w.heap[c]?:=fun c hc=>hk c (by rintro rfl;exact Rl hc);have hg:∀ i o',get (bP (bP st (.del id)) (.new d o)).heap i=some o'->(i=d/\o'=o)\/(i≠d/\i≠id /\ ∃ o1,get st.heap i=some o1/\o'=Obj.aL (bf d) o1):=by
  intro i o' hi;simp only[bP,gd,eM,bY,e6]at hi;split at hi
  ·rename_i e;left;exact⟨e,by cases hi;rfl⟩
  ·rename_i e
   right;by_cases hid:i=id
   ·simp[hid]at hi
   ·refine⟨e,hid,?_⟩
    cases h1:get st.heap i with
    | none=>simp[h1]at hi
    | some o1=>simp[h1,hid]at hi;exact⟨o1,rfl,hi.symm⟩
 have key:∀ i o',get (bP (bP st (.del id)) (.new d o)).heap i=some o'->i≠d->aV ⟨fun i=>if i=d then L.ρ id else L.ρ i,fun i=>if i=d then L.κ id else L.κ i⟩ i o'->i≠id /\ ∃ o1,get st.heap i=some o1/\aV L i o1:=by
  intro i o' hi eW hb;rcases hg i o' hi with⟨rfl,rfl⟩|⟨_,hid,o1,h1,rfl⟩
  ·exact absurd rfl eW
  ·refine⟨hid,o1,h1,?_⟩
   have:=(eT _ d i o1).1 hb;cases o1<;>simp_all[aV]
 refine⟨⟨⟨cx.fS hh.heap.hg tr (fun c hc=>hh.heap.fresh c (by omega)) fun c hc=>⟨hC c hc,rfl⟩,fun c hc=>by rw[dc];exact hh.heap.iw c hc,fun c hc=>hh.heap.fresh c (by omega),?_,?_,?_⟩,?_,hh.sR,?_,hh.vD,?_,fun i hi=>?_,hh.ud⟩,tr⟩
 ·intro i o' hi
  rcases hg i o' hi with⟨rfl,rfl⟩|⟨eW,hid,o1,h1,rfl⟩
  ·exact ho
  ·refine cb.mono (L:=L) tr i _ (fun j hj=>?_) ⟨by simp[eW],by simp[eW]⟩ (fun hb=>hk _ ?_) (cb.kill d i o1 (hh.heap.obj i o1 h1))
   ·have:j≠d:=by rintro rfl;exact qb j o1 hj
    simp[this]
   ·intro e
    exact hid (hh.heap.inj i id o1 o0 h1 h0 ((eT L d i o1).1 hb) iN e)
 ·intro i o' hi hb
  by_cases mQ:i=d
  ·subst mQ;simp only[if_true];exact⟨hF,Rl⟩
  ·obtain⟨_,o1,h1,pa⟩:=key i o' hi mQ hb
   simp only[mQ,if_false];exact hh.heap.own i o1 h1 pa
 ·intro i j o' p hi hj mq jx e
  by_cases mQ:i=d<;>by_cases IS:j=d
  ·rw[mQ,IS]
  ·exfalso
   obtain⟨ZC,p1,DG,IN⟩:=key j p hj IS jx;simp[mQ,IS]at e;exact ZC (hh.heap.inj j id p1 o0 DG h0 IN iN e.symm)
  ·exfalso
   obtain⟨ZA,p1,DG,IN⟩:=key i o' hi mQ mq;simp[mQ,IS]at e;exact ZA (hh.heap.inj i id p1 o0 DG h0 IN iN e)
  ·obtain⟨_,o1,Rq,pa⟩:=key i o' hi mQ mq
   obtain⟨_,p1,DG,IN⟩:=key j p hj IS jx;simp only[mQ,IS,if_false]at e;exact hh.heap.inj i j o1 p1 Rq DG pa IN e
 ·intro s v hs
  simp only[bP,bY]at hs
  cases h1:get st.env s with
  | none=>simp[h1]at hs
  | some v0=>
   simp[h1]at hs;subst hs;obtain⟨x,hx,hr⟩:=hh.env s v0 h1;refine⟨x,hx,bg.mono tr _ x (fun j hj=>?_) (bg.kill d v0 x hr)⟩;have:j≠d:=by rintro rfl;exact lX j v0 hj
   simp[this]
 ·intro b hb
  have:=(hh.pg b hb).1;exact⟨by rw[hk b (by rintro rfl;exact tZ _ this)];exact this,(hh.pg b hb).2⟩
 ·intro l hl
  obtain⟨lp,E0⟩:=hh.lk l hl;exact⟨lp,⟨by rw[hk l (by rintro rfl;exact nt _ E0.1.1)];exact E0.1.1,E0.1.2⟩,E0.2⟩
 ·have:i≠d:=by rintro rfl;exact hpd hi
  simp only[this,if_false];exact hh.jy i hi
end
theorem aK.jq(c:aK):c.len=c.bm.length:=by
 cases c<;>simp[aK.len,aK.bm,bV]
theorem aK.qg(c:aK)(off n:Nat):(c.part off n).bm=(c.bm.drop off).take n:=by
 cases c<;>simp[aK.part,aK.bm,bV,List.map_drop,List.map_take]
theorem aK.By(c x:aK):(c.app x).bm=c.bm++x.bm:=by
 cases c<;>cases x<;>simp[aK.app,aK.bm,bV]
theorem ik{α:Type}{sz:Nat}:∀ {es:List (List α)} (n:Nat),dj sz es->(es.take n).flatten=es.flatten.take (n*sz)
 | [],n,_=>by simp
 | f::es,0,_=>by simp
 | f::es,n+1,h=>by
  have hf:=h f (List.mem_cons_self ..);have e1:(n+1)*sz=f.length+n*sz:=by rw[Nat.succ_mul];omega
  rw[List.take_succ_cons,List.flatten_cons,List.flatten_cons,ik n (fun e he=>h e (List.mem_cons_of_mem _ he)),e1,List.take_length_add_append]
theorem ot{α:Type}{sz:Nat}:∀ {es:List (List α)} (n:Nat),dj sz es->(es.drop n).flatten=es.flatten.drop (n*sz)
 | [],n,_=>by simp
 | f::es,0,_=>by simp
 | f::es,n+1,h=>by
  have hf:=h f (List.mem_cons_self ..);have e1:(n+1)*sz=f.length+n*sz:=by rw[Nat.succ_mul];omega
  rw[List.drop_succ_cons,List.flatten_cons,ot n (fun e he=>h e (List.mem_cons_of_mem _ he)),e1,List.drop_length_add_append]
section
variable {yv : Option Nat} {L : Loc} {F : Nat -> Nat} {w : World}
theorem dz.cells{b off sz:Nat}:∀ {es:List (List D)},dz F w b off sz es -> ∃ l:List Value,bc F w es.flatten l/\l.length=es.length*sz /\ ∀ (j:Nat) v,l[j]?=some v->w.cell? ⟨b,off+j,none⟩=some v:=by
 intro es;have at_:∀ {cs:List D} {o:Nat},cR F w b o cs -> ∃ l:List Value,bc F w cs l /\ ∀ (j:Nat) v,l[j]?=some v->w.cell? ⟨b,o+j,none⟩=some v:=by
  intro cs
  induction cs with
  | nil=>intro o _;exact⟨[],rfl,by simp⟩
  | cons c r ih=>
   intro o h;obtain⟨_,⟨x,hx,hc⟩,hr⟩:=h;obtain⟨l,hl,hj⟩:=ih hr;refine⟨x::l,⟨x,l,rfl,hc,hl⟩,fun j v hv=>?_⟩
   cases j with
   | zero=>simp at hv;subst hv;exact hx
   | succ j=>
    have:=hj j v (by simpa using hv);rw[Nat.add_assoc,Nat.add_comm 1 j]at this;exact this
 induction es generalizing off with
 | nil=>intro _;exact⟨[],rfl,by simp,by simp⟩
 | cons e r ih=>
  intro h;obtain⟨he,ha,hr⟩:=h;obtain⟨l1,h1,j1⟩:=at_ ha;obtain⟨l2,h2,e2,j2⟩:=ih hr;have e1:=h1.length;refine⟨l1++l2,?_,by simp[e1,e2,he,Nat.succ_mul];omega,fun j v hv=>?_⟩
  ·rw[List.flatten_cons]
   have:=aq.append (yv:=none) (L:=⟨fun _=>0,fun _=>0⟩) (aq.inj.2 h1) (aq.inj.2 h2);rw[<- jL]at this;exact aq.inj.1 this
  ·by_cases hj:j<l1.length
   ·rw[List.getElem?_append_left hj]at hv;exact j1 j v hv
   ·rw[List.getElem?_append_right (by omega)]at hv
    have:=j2 _ v hv;have e:off+sz+(j-l1.length)=off+j:=by omega
    rw[e]at this;exact this
theorem sW{σ':Type}{h:Heap}{s:σ'}{cx:Cx σ'}{hp:Heap}(hs:dB h hp)(hg:aZ cx L F hp s w){v:V}{fs:aK}(hf:rK h v=some fs){y:Value}(hr:bg cx.yv L F w v y){sz:Nat}(hl:∀ e∈fs.bm,e.length=sz)(dc:0<sz) :
  ∃ (ay:Option Addr) (cap:Nat) (news:List Value),y = .slice ay fs.bm.length cap/\fs.bm.length<=cap/\aq cx.yv L F w fs.bm.flatten news/\news.length=fs.bm.length*sz /\
   (fs.bm = [] \/ ∃ b off,ay=some ⟨b,off,none⟩ /\ ∀ (j:Nat) v,news[j]?=some v->w.cell? ⟨b,off+j,none⟩=some v):=by
 unfold rK at hf;split at hf
 ·rename_i es
  cases hf;obtain⟨a0,len,cap,rfl,hlen,j7,fe⟩:=hr;have e1:(aK.dd es).bm.length=es.length:=by simp[aK.bm,bV]
  by_cases eW:es = []
  ·subst eW
   refine⟨a0,cap,[],by rw[hlen];rfl,Nat.zero_le _,rfl,by simp[aK.bm,aG],.inl rfl⟩
  ·obtain⟨b,off,sz',rfl,IW,tY⟩:=fe eW
   have FL:sz'=sz:=by
    cases es with
    | nil=>exact absurd rfl eW
    | cons x r=>
     have:=hl (inj x) (by simp[aK.bm,aG]);rw[eC]at this;exact tY.1.symm.trans this
   subst FL;obtain⟨l,h1,h2,h3⟩:=dz.cells tY;refine⟨_,cap,l,by rw[hlen,e1],by rw[e1,<- hlen];exact j7,?_,by rw[h2,e1],.inr ⟨b,off,rfl,h3⟩⟩;show aq _ _ _ _ (aG es).flatten l;rw[dt];exact aq.inj.2 h1
 ·cases hf
  have hr:y = .slice none 0 0:=hr;exact⟨none,0,[],hr,Nat.le_refl _,rfl,by simp[aK.bm,aG],.inl rfl⟩
 ·rename_i id z off n
  split at hf;case h_2=>cases hf
  rename_i m es fe;split at hf;case h_2=>cases hf
  rename_i vq nr;cases hf;have vq:=er vq;have nr:=ng nr;subst vq;rw[aK.jq]at nr;obtain⟨a0,cap,rfl,j7,Xm,hb⟩:=hr;have e1:(es.part off n).bm.length=n:=by rw[aK.qg];simp;omega
  obtain⟨_,iq,ir⟩:=hg.obj id _ (hs _ _ fe);by_cases su:n=0
  ·subst su
   have e0:(es.part off 0).bm = []:=by rw[aK.qg];simp
   exact⟨a0,cap,[],by rw[e0];rfl,by rw[e0];exact Nat.zero_le _,by rw[e0];rfl,by rw[e0];simp,.inl e0⟩
  ·rcases hb with⟨h0,_⟩|⟨rfl,hb⟩
   ·omega
   have ZM:m=sz:=by
    have hx:off<es.bm.length:=by omega
    have:=hl es.bm[off] (by rw[aK.qg];exact List.mem_iff_getElem?.2 ⟨0,by rw[List.getElem?_take_of_lt (by omega),List.getElem?_drop];simp[hx]⟩);rw[<- this];exact(iq _ (List.getElem_mem _)).symm
   subst ZM;rcases ir with⟨he,_⟩|⟨l,E,kM,hk,LI,FJ⟩
   ·rw[he]at nr;simp at nr;omega
   have vr:(es.part off n).bm.flatten=(es.bm.flatten.drop (off*m)).take (n*m):=by
    rw[aK.qg,ik _ (fun e he=>iq e (List.mem_of_mem_drop he)),ot _ iq]
   have hle:(off+n)*m<=es.bm.length*m:=Nat.mul_le_mul_right _ nr;rw[Nat.add_mul]at hle;refine⟨_,cap,((l.toList.take (es.bm.length*m)).drop (off*m)).take (n*m),by rw[e1],by rw[e1];exact j7,by rw[vr];exact(FJ.drop _).take _,?_,.inr ⟨_,_,rfl,fun j v hv=>?_⟩⟩
   ·rw[e1];simp;omega
   ·rw[cell_of_row _ _ _ _ _ _ kM]
    have hj:j<n*m:=by have:=(List.getElem?_eq_some_iff.1 hv).1;simp at this;omega
    rw[List.getElem?_take_of_lt hj,List.getElem?_drop,List.getElem?_take_of_lt (by omega)]at hv;simpa using hv
 ·cases hf
end
section
variable {P : Program} {T : e7}
theorem run_append_room{w:World}(t tx ty e:TypeId){i:TypeInfo}(ht:P.underlying t=some (.slice e))(hi:P.info? e=some i){b off sLen sCap:Nat}{x:Value}{n:Nat}{news:List Value}(hs:Src P i.size tx x n news w)
  (rj:sLen+n<=sCap) {c:Array Value} {E:TypeId} (hb:w.heap[b]?=some (.cells c E (0,0))) (hc:off+sCap*i.size<=c.size) :
  (Builtin.append_ #[t,tx] ty #[.slice (some ⟨b,off,none⟩) sLen sCap,x]).run P w =
   .ok (.slice (some ⟨b,off,none⟩) (sLen+n) sCap) (w.setRow b (c.toList.take (off+sLen*i.size)++news++c.toList.drop (off+sLen*i.size+news.length)).toArray):=by
 have hle:(sLen+n)*i.size<=sCap*i.size:=Nat.mul_le_mul_right _ rj;rw[Nat.add_mul]at hle;have jA:=run_storeCells_at (P:=P) b (off+sLen*i.size) E news 0 c w hb (by rw[hs.newsLen];omega) hs.one;simp only[Nat.add_zero]at jA;rcases hs.kind with⟨e',hk⟩|hk<;>simp[Builtin.append_,run_underlying ht,run_underlying hk,sizeOf,typeInfo,hi,hs.len,rj,hs.cells,fh,jA]
theorem kF{w:World}(t tx ty e:TypeId){i:TypeInfo}(ht:P.underlying t=some (.slice e))(hi:P.info? e=some i){base:Option Addr}{sLen sCap:Nat}{x:Value}(hs:Src P i.size tx x 0 [] w)
  (rj:sLen<=sCap) :
  (Builtin.append_ #[t,tx] ty #[.slice base sLen sCap,x]).run P w = .ok (.slice base sLen sCap) w:=by
 cases base<;>rcases hs.kind with⟨e',hk⟩|hk<;>simp[Builtin.append_,run_underlying ht,run_underlying hk,sizeOf,typeInfo,hi,hs.len,rj,hs.cells,storeCells]
theorem GA{w:World}{size:Nat}{u el:TypeId}(hu:P.underlying u=some (.slice el)){ay:Option Addr}{n cap:Nat}{news:List Value}(hlen:news.length=n*size)
  (hc:n=0 \/ ∃ b off,ay=some ⟨b,off,none⟩ /\ ∀ (j:Nat) v,news[j]?=some v->w.cell? ⟨b,off+j,none⟩=some v) (h1:∀ v∈news,v.oneCell'=true) :
  Src P size u (.slice ay n cap) n news w:=by
 rcases hc with rfl|⟨b,off,rfl,hj⟩
 ·have hn:news = []:=List.length_eq_zero_iff.1 (by simpa using hlen)
  subst hn
  cases ay with
  | none=>exact Src.ofNil w hu cap
  | some ad=>exact Src.ofSlice w hu ad 0 cap [] (by simp) (by simp) (fun _ h=>by cases h)
 ·exact Src.ofSlice w hu _ n cap news hlen (fun j v hv=>by rw[fh];exact hj j v hv) h1
variable {e : Env} {h : Heap} {dst : Option Nat} {K : List Wr -> Prop} {ty : TypeId} {pos : String} {after : Array Edge} {guard : Option (Nat × Bool)}
theorem u9{σ:Type}{cx:Cx σ}{r:Option Nat}{m:List Nat}{L:Loc}{F:Nat->Nat}{st:St σ}{a:Act}{w:World}(hg:Good cx r m L F st a w){d:Nat}(hd:d<a.tmps.size)
  {t tx el:TypeId} {ie:TypeInfo} {z:Value} (hu:P.underlying t=some (.slice el)) (mQ:P.info? el=some ie) (hz:ie.zero=some z) (Qa:z.cells.size=ie.size) (dc:0<ie.size) (Hr:0<ie.bytes)
  {base:Option Addr} {len cap n:Nat} {olds news:List Value} {x:Value} (hold:∀ w':World,(∀ y,w'.cell? y=w.cell? y)->(Builtin.firstCells ie.size len (.slice base len cap)).run P w' = .ok olds.toArray w')
  (Hz:olds.length=len*ie.size) (hs:Src P ie.size tx x n news w) (N3:cap<len+n) (lL:(len+n)*ie.bytes<=140737488355328)
  {es:aK} (v7:es.bm.length=len+n) (iq:dj ie.size es.bm) (hr:aq cx.yv L F w es.bm.flatten (olds++news)) (hf:¬ bZ es.bm.flatten d) :
  ∃ v w' L' F',(Builtin.append_ #[t,tx] ty #[.slice base len cap,x]).run P w = .ok v w'/\Good cx r m L' F' (aR st [.new d (.arr ie.size es),.set d (.sl d ie.size 0 (len+n))]) (a.put (some d) v) w'/\Tr F w F' w':=by
 have nt:=hs.newsLen;have h63:((len+n:Nat):Int)<=9223372036854775807:=by
  have:len+n<=(len+n)*ie.bytes:=Nat.le_mul_of_pos_right _ Hr;omega
 have bN:=run_append_grow_src (P:=P) w t tx ty el ie z hu mQ hz base len cap olds (hold w.drew fun _=>rfl) x n news hs N3 h63 (growslice_fits N3 lL);generalize hgc:grownCap w (len+n) cap el=nc at bN;have Rm:len+n<=nc:=by rw[<- hgc];exact grownCap_ge _ _ _ _
 generalize hcells:(olds++news).toArray++Builtin.zeroCells z.cells (nc-(len+n))=c' at bN;have hmul:(len+n)*ie.size=len*ie.size+n*ie.size:=Nat.add_mul _ _ _;have Fy:c'.toList.take ((len+n)*ie.size)=olds++news:=by
  rw[<- hcells];have:(olds++news).length=(len+n)*ie.size:=by simp[Hz,nt,hmul]
  rw[<- this];simp only[Array.toList_append];exact List.take_left' rfl
 have rS:c'.size=nc*ie.size:=by
  rw[<- hcells];have h1:nc=(len+n)+(nc-(len+n)):=by omega
  have h2:nc*ie.size=(len+n)*ie.size+(nc-(len+n))*ie.size:=by
   conv=>lhs;rw[h1]
   rw[Nat.add_mul]
  rw[h2];simp[Builtin.zeroCells,Hz,nt,Qa,hmul]
 have Rc:Good cx r m L F st a w.drew:=hg.same rfl rfl rfl rfl;have Pa:Tr F w F w.drew:=Tr.drew _;have sy:Tr F w.drew F (w.drew.alloc (.cells c' el)):=Tr.alloc Rc.heap.fresh _;have hle:(len+n)*ie.size<=nc*ie.size:=Nat.mul_le_mul_right _ Rm;have te:=Rc.new d c'.size (.arr ie.size es) (.cells c' el) (Rc.fy hd) ⟨dc,iq,.inr ⟨c',el,(by show(w.drew.alloc _).heap[if d=d then w.drew.heap.size else L.ρ d]?=_;rw[if_pos rfl];exact heap_alloc_new w.drew _),(by simp),(by rw[v7,rS];exact hle),(by
  rw[v7,Fy];exact aq.lY (L:=L) (Tr.trans Pa sy) (fun i hi=>by simp[hi]) hf hr)⟩⟩
 refine⟨_,_,_,F,bN,te.set (v:=.sl d ie.size 0 (len+n)) hd ⟨_,_,rfl,Rm,dc,.inr ⟨(by simp),(by simp[rS])⟩⟩,Tr.trans Pa sy⟩
theorem eA(s:ByteArray):(bX s).length=s.size:=byteCells_length s
theorem oV(a b:ByteArray):bX (a++b)=bX a++bX b:=by
 simp[bX]
theorem QG(hT:bA P T){t el:TypeId}{ei:rE}(h:QF T t=some (el,ei)):P.underlying t=some (.slice el)/\T.get el=some ei/\gI T t=some ei:=by
 unfold QF at h;split at h;case h_2=>cases h
 rename_i ti ht;split at h;case h_2=>cases h
 rename_i e he;split at h;case h_2=>cases h
 rename_i ei' jS;cases h;obtain⟨de,gP,eI⟩:=fp hT ht;rw[he]at eI;have hs:gI T t=some ei:=by simp[gI,ht,he,jS]
 refine⟨?_,jS,hs⟩;have:=fC eI.symm;rw[gP,this]
theorem Oq(hT:bA P T){t:TypeId}(h:isStr T t=true):P.underlying t=some .string:=by
 unfold isStr at h;split at h;case h_2=>cases h
 rename_i ti ht;split at h;case h_2=>cases h
 rename_i he;obtain⟨de,gP,eI⟩:=fp hT ht;rw[he]at eI;have:=jo eI.symm;subst this;exact gP
theorem Eb(hT:bA P T){u:TypeId}{v:V}{s:ByteArray}(hn:F9 T h u v=some s){σ:Type}{cx:Cx σ}{r:Option Nat}{m:List Nat}{L:Loc}{F:Nat->Nat}{st:St σ}{a:Act}{w:World}
  (hh:dB h st.heap) (hg:Good cx r m L F st a w) {x:Value} (hx:bg cx.yv L F w v x):Src P 1 u x s.size (bX s) w:=by
 have RE:∀ {s:ByteArray},(match gI T u with
  | some _=>match rK h v with
   | some (.dd [[.int .u8 c]])=>match decide (0<=c),decide (c<256) with
    | true,true=>some (⟨#[UInt8.ofNat c.toNat]⟩:ByteArray)
    | _,_=>none
   | _=>none
  | none=>none)=some s->Src P 1 u x s.size (bX s) w:=by
  intro s hn;split at hn;case h_2=>cases hn
  rename_i ui SQ;obtain⟨el',Oh,_⟩:=ll hT SQ;split at hn;case h_2=>cases hn
  rename_i c JV;split at hn;case h_2=>cases hn
  rename_i h0 h1;cases hn;have h0:=of_decide_eq_true h0;have h1:=of_decide_eq_true h1;obtain⟨ay,cap,news,Ok,j7,B0,nt,oX⟩:=sW hh hg.heap JV hx (sz:=1) (fun e he=>by
   simp only[aK.bm,aG,inj,List.mem_singleton]at he;subst he;rfl) Nat.one_pos
  obtain⟨y,l',rfl,hy,kM⟩:=B0;have hy:y = .int .u8 c:=hy;have kM:l' = []:=kM;subst hy kM;have he:bX (⟨#[UInt8.ofNat c.toNat]⟩:ByteArray) = [.int .u8 c]:=by
   have:((UInt8.ofNat c.toNat).toNat:Int)=c:=by
    rw[UInt8.toNat_ofNat_of_lt' (by show c.toNat<256;omega)];omega
   show [Value.int .u8 ((UInt8.ofNat c.toNat).toNat:Int)]=_;rw[this]
  rw[he,Ok];exact GA Oh (by simpa using nt) (oX.imp (fun h=>by cases h) fun h=>h) (fun v hv=>by
   rw[List.mem_singleton]at hv;subst hv;rfl)
 unfold F9 at hn;split at hn
 ·rename_i s'
  split at hn;case h_2=>cases hn
  rename_i hs;cases hn;have hx:x = .string s:=hx;subst hx;exact Src.ofString w (Oq hT hs) s
 ·exact RE hn
theorem OK(hT:bA P T){args:Array Operand}{tys:Array TypeId}{x y:Operand}{t u:TypeId}(dx:args.toList = [x,y])(DP:tys.toList = [t,u])(hk:QC T e h dst t u x y K) :
  ∃ ws,K ws/\Out P e h ⟨dst,.call ⟨.builtin .append,args,tys⟩,ty,pos,after,guard⟩ ws:=by
 unfold QC at hk;split at hk;case h_2=>exact hk.elim
 rename_i v yv el ei d hx hy jS;split at hk;case h_2=>exact hk.elim
 rename_i s hs;have jj:=ca hk;clear hk;obtain⟨gh,hk⟩:=jj;simp only[Bool.and_eq_true]at gh;obtain⟨gh,rV,pa⟩:=gh;have rV:=er rV;have pa:=er pa;obtain⟨wh,CH,_⟩:=QG hT jS;obtain⟨ie,z,mQ,hz,dc,Hr,fo,rQ,Qa⟩:=sS hT CH gh;have wa:ie.size=1:=by omega
 have uC:ie.bytes=1:=by omega
 have bN:∀ (a:Act) (w:World) (b:Option Addr) (l c:Nat) (v:Value) (w':World),a.eval x = .slice b l c->(Builtin.append_ #[t,u] ty #[.slice b l c,a.eval y]).run P w = .ok v w' ->
   (execOp a.eval ⟨some d,.call ⟨.builtin .append,args,tys⟩,ty,pos,after,guard⟩).run P w = .ok (.value v) w':=fun a w b l c v w' dC hv=>by
  have h1:args.map a.eval = #[.slice b l c,a.eval y]:=by
   apply Array.ext';simp[dx,dC]
  have h2:tys = #[t,u]:=by
   apply Array.ext';simp[DP]
  simp[execOp,resolve,invoke,builtin,h1,h2,hv]
 have grow:∀ {σ:Type} {cx:Cx σ} {r:Option Nat} {m:List Nat} {L:Loc} {F:Nat->Nat} {st:St σ} {a:Act} {w:World},Good cx r m L F st a w->d<a.tmps.size -> ∀ (base:Option Addr) (cap:Nat) (b:ByteArray),
   a.eval x = .slice base b.size cap->(Builtin.firstCells ie.size b.size (.slice base b.size cap)).run P w.drew = .ok (bX b).toArray w.drew->Src P 1 u (a.eval y) s.size (bX s) w->cap<b.size+s.size->b.size+s.size<=140737488355328 ->
   ∃ v w' L' F',(execOp a.eval ⟨some d,.call ⟨.builtin .append,args,tys⟩,ty,pos,after,guard⟩).run P w = .ok (.value v) w'/\Good cx r m L' F' (aR st [.new d (.buf el (b++s)),.set d (.sl d 1 0 (b++s).size)]) (a.put (some d) v) w'/\Tr F w F' w':=by
  intro σ cx r m L F st a w hg hd base cap b dC hold rW N3 lL;have hr:=run_append_grow_src (P:=P) w t u ty el ie z wh mQ hz base b.size cap (bX b) hold (a.eval y) s.size (bX s) (by rw[wa];exact rW) N3 (by omega) (growslice_fits N3 (by rw[uC];omega));generalize hgc:grownCap w (b.size+s.size) cap el=nc at hr;have Rm:b.size+s.size<=nc:=by rw[<- hgc];exact grownCap_ge _ _ _ _
  generalize hcells:(bX b++bX s).toArray++Builtin.zeroCells z.cells (nc-(b.size+s.size))=c' at hr;have Ni:(b++s).size=b.size+s.size:=by simp
  have hlen:(bX b++bX s).length=b.size+s.size:=by rw[List.length_append,eA,eA]
  have Fy:c'.toList.take (b++s).size=bX (b++s):=by
   rw[<- hcells,Ni,oV,<- hlen];simp only[Array.toList_append];exact List.take_left' rfl
  have rS:c'.size=nc:=by
   rw[<- hcells];have:z.cells.size=1:=by omega
   simp only[Array.size_append,List.size_toArray,hlen,size_zeroCells,this];omega
  have Rc:Good cx r m L F st a w.drew:=hg.same rfl rfl rfl rfl;have Pa:Tr F w F w.drew:=Tr.drew _;have sy:Tr F w.drew F (w.drew.alloc (.cells c' el)):=Tr.alloc Rc.heap.fresh _;have te:=Rc.new d c'.size (.buf el (b++s)) (.cells c' el) (Rc.fy hd) ⟨c',(by show(w.drew.alloc _).heap[if d=d then w.drew.heap.size else L.ρ d]?=_;rw[if_pos rfl];exact heap_alloc_new w.drew _),(by simp),(by omega),Fy⟩;refine⟨_,_,_,F,bN a w base _ cap _ _ dC hr,te.set (v:=.sl d 1 0 (b++s).size) hd ⟨some ⟨w.drew.heap.size,0,none⟩,nc,(by rw[Ni];rfl),(by omega),Nat.one_pos,.inr ⟨(by simp),(by simp[rS])⟩⟩,Tr.trans Pa sy⟩
 split at hk
 ·have jj:=ca hk
  clear hk;obtain⟨hc,hk⟩:=jj;simp only[Bool.and_eq_true]at hc;have h0:=of_decide_eq_true hc.1;have lL:=of_decide_eq_true hc.2;refine⟨_,hk,?_⟩;intro σ cx r m L F st a w he hh hg hd;have dC:a.eval x = .slice none 0 0:=hg.aS (aF he hx);obtain⟨v,w',L',F',h1,h2,h3⟩:=grow hg (hd d rfl) none 0 ByteArray.empty dC (by
   have:bX ByteArray.empty = []:=rfl;rw[this];exact run_firstCells_none _ _ 0 0 0) (Eb hT hs hh hg (hg.aS (aF he hy))) (by simp;omega) (by simp;omega)
  have e0:ByteArray.empty++s=s:=by simp
  rw[e0]at h2;exact⟨v,w',_,h1,.inl rfl,L',F',h2,h3⟩
 ·rename_i id n off len
  split at hk;case h_2=>exact hk.elim
  rename_i tb b hb;obtain⟨hc,eI⟩:=ca hk;clear hk;simp only[Bool.and_eq_true]at hc;obtain⟨nr,hk⟩:=ca eI;clear eI;simp only[Bool.and_eq_true]at nr;have FD:=er hc.1;have pU:=er hc.2.1;have sx:=er hc.2.2;have hlen:=of_decide_eq_true nr.1;have we:=of_decide_eq_true nr.2.1;have lL:=of_decide_eq_true nr.2.2;subst FD pU hlen sx;refine⟨_,hk,?_⟩;intro σ cx r m L F st a w he hh hg hd;obtain⟨base,cap,dC,Xc,_,Hq⟩:=hg.aS (aF he hx);rcases Hq with⟨Xm,_⟩|⟨rfl,Hq⟩
  ·omega
  rw[Nat.zero_add,Nat.mul_one]at Hq;rw[Nat.zero_mul]at dC;have h0:=hh _ _ hb;obtain⟨c,vq,nT,Hs,W3⟩:=hg.heap.obj id _ h0;have rW:=Eb hT hs hh hg (hg.aS (aF he hy));have Ni:(b++s).size=b.size+s.size:=by simp
  have hfc:∀ w':World,(∀ x,w'.cell? x=w.cell? x)->(Builtin.firstCells ie.size b.size (.slice (some ⟨L.ρ id,0,none⟩) b.size cap)).run P w' = .ok (bX b).toArray w':=fun w' Vk=>by
   rw[wa];refine run_firstCells_some w' 1 b.size _ b.size cap _ (by rw[eA];omega) fun j v hv=>?_;have hj:j<b.size:=by have:=(List.getElem?_eq_some_iff.1 hv).1;rwa [eA]at this
   rw[fh,Vk,cell_of_row _ _ _ _ _ _ vq,Nat.zero_add,<- Array.getElem?_toList,<- hv,<- W3,List.getElem?_take_of_lt hj]
  by_cases rj:b.size+s.size<=cap
  ·have hr:=run_append_room (P:=P) (ty:=ty) t u tb wh mQ (by rw[wa];exact rW) rj (b:=L.ρ id) (off:=0) vq (by rw[wa];omega)
   simp only[wa,Nat.mul_one,Nat.zero_add]at hr;have hL:=Array.length_toList (xs:=c);have Ns:=ib (cs:=c.toList) (l:=bX s) (off:=b.size) (by rw[eA];omega);generalize pb:(c.toList.take b.size++bX s++c.toList.drop (b.size+(bX s).length)).toArray=c' at hr;have ce:c'.toList=c.toList.take b.size++bX s++c.toList.drop (b.size+(bX s).length):=by rw[<- pb]
   have zG:c'.size=c.size:=by rw[<- ce]at Ns;simpa using Ns
   obtain⟨g1,g2⟩:=hg.MJ (d:=d) (o:=.buf tb (b++s)) (hg.fy (hd d rfl)) h0 trivial (w':=w.setRow (L.ρ id) c') rfl rfl rfl (size_setRow _ _ _) (fun b hb=>setRow_other _ _ _ _ hb)
    (by rw[vq];intro ds e;cases e) (by rw[vq];intro lp e;cases e)
    ⟨c',(by show(w.setRow _ c').heap[if d=d then L.ρ id else L.ρ d]?=_;rw[if_pos rfl];exact setRow_heap _ _ _ _ _ _ vq),(by rw[zG];simpa using nT),(by omega),(by
     rw[ce,W3,oV,Ni];have e1:b.size+s.size=(bX b++bX s).length:=by rw[List.length_append,eA,eA]
     rw[e1,List.take_left'];rfl)⟩
   exact⟨_,_,_,bN a w _ b.size cap _ _ dC hr,.inl rfl,_,F,g1.set (v:=.sl d 1 0 (b++s).size) (hd d rfl) ⟨_,_,(by rw[Ni]),(by omega),Nat.one_pos,.inr ⟨(by simp),(by simp;exact Hq)⟩⟩,g2⟩
  ·obtain⟨v,w',L',F',h1,h2,h3⟩:=grow (hg.del id) (hd d rfl) _ cap b dC (hfc w.drew fun _=>rfl) rW (by omega) lL
   exact⟨v,w',_,h1,.inl rfl,L',F',h2,h3⟩
 ·exact hk.elim
theorem Ge(hT:bA P T){args:Array Operand}{tys:Array TypeId}(hk:fj T e h dst .append args tys K):∃ ws,K ws/\Out P e h ⟨dst,.call ⟨.builtin .append,args,tys⟩,ty,pos,after,guard⟩ ws:=by
 simp only[fj]at hk;split at hk;case h_2=>exact hk.elim
 rename_i x y t u dx DP;split at hk
 ·exact OK hT dx DP hk
 split at hk;case h_2=>exact hk.elim
 rename_i ui SQ;replace hk:=Im hk;unfold xj at hk;split at hk;case h_2=>exact hk.elim
 rename_i v uv ei d hx hy jS;split at hk;case h_2=>exact hk.elim
 rename_i fs JV;obtain⟨gh,hk⟩:=ca hk;obtain⟨el,wh,CH⟩:=ll hT jS;obtain⟨el',Oh,_⟩:=ll hT SQ;obtain⟨ie,z,mQ,hz,dc,Hr,fo,rQ,Qa⟩:=sS hT CH gh;have bN:∀ (a:Act) (w:World) (b:Option Addr) (l c:Nat) (v:Value) (w':World),a.eval x = .slice b l c->(Builtin.append_ #[t,u] ty #[.slice b l c,a.eval y]).run P w = .ok v w' ->
   (execOp a.eval ⟨some d,.call ⟨.builtin .append,args,tys⟩,ty,pos,after,guard⟩).run P w = .ok (.value v) w':=fun a w b l c v w' dC hv=>by
  have h1:args.map a.eval = #[.slice b l c,a.eval y]:=by
   apply Array.ext';simp[dx,dC]
  have h2:tys = #[t,u]:=by
   apply Array.ext';simp[DP]
  simp[execOp,resolve,invoke,builtin,h1,h2,hv]
 unfold wW at hk;split at hk
 ·obtain⟨hc,hk⟩:=ca hk
  simp only[Bool.and_eq_true]at hc;obtain⟨Ra,eV⟩:=hc;obtain⟨lL,hk⟩:=ca hk;have lL:=of_decide_eq_true lL;refine⟨_,hk,?_⟩;intro σ cx r m L F st a w he hh hg hd;have dC:a.eval x = .slice none 0 0:=hg.aS (aF he hx);have BW:=BE Ra;obtain⟨ay,cap,news,Ok,j7,B0,nt,oX⟩:=sW hh hg.heap JV (hg.aS (aF he hy)) (fun e he=>(BW e he).1) dc;have h1:=B0.one (gE fun e he=>(BW e he).2);have rW:Src P ie.size u (a.eval y) fs.bm.length news w:=by
   rw[Ok,<- fo];exact GA Oh nt (oX.imp (fun h=>by rw[h];rfl) fun h=>h) h1
  have Fw:((aK.dd []).app fs).bm=fs.bm:=by rw[aK.By];rfl
  have JX:(aK.dd []).len+fs.len=fs.bm.length:=by rw[aK.jq,aK.jq];simp[aK.bm,aG]
  rw[JX]at lL;rw[JX,fo];by_cases h0:fs.bm = []
  ·have su:fs.bm.length=0:=by rw[h0];rfl
   have IU:news = []:=List.length_eq_zero_iff.1 (by rw[nt,su];simp);rw[su,IU]at rW;have hr:=kF (P:=P) t u ty el wh mQ (base:=none) (sLen:=0) (sCap:=0) rW (Nat.le_refl _);have te:=hg.kb d ie.size (hg.fy (hd d rfl)) (by rw[<- fo];exact dc) ((aK.dd []).app fs) (by rw[Fw,h0]);exact⟨_,_,_,bN a w none 0 0 _ _ dC hr,.inl rfl,_,F,te.set (v:=.sl d ie.size 0 fs.bm.length) (hd d rfl) ⟨none,0,(by rw[su]),(by rw[su];exact Nat.le_refl _),(by rw[<- fo];exact dc),.inl ⟨su,rfl⟩⟩,Tr.refl F w⟩
  ·have we:0<fs.bm.length:=Nat.pos_of_ne_zero fun e=>h0 (List.length_eq_zero_iff.1 e)
   have:=u9 (P:=P) (ty:=ty) (tx:=u) (x:=a.eval y) hg (hd d rfl) wh mQ hz Qa (by omega) (by omega) (base:=none) (len:=0) (cap:=0) (n:=fs.bm.length) (olds:=[]) (news:=news) (fun w' _=>run_firstCells_none w' ie.size 0 0 0) (by simp) rW (by omega) (by rw[Nat.zero_add,<- rQ];exact lL)
    (es:=(aK.dd []).app fs) (by rw[Fw];simp) (by rw[Fw,<- fo];exact fun e he=>(BW e he).1) (by rw[Fw];exact B0) (pH eV)
   obtain⟨v,w',L',F',hv,te,tr⟩:=this;rw[Nat.zero_add]at te;exact⟨v,w',_,bN a w none 0 0 v w' dC hv,.inl rfl,L',F',te,tr⟩
 ·rename_i id n off len _
  split at hk;case h_2=>exact hk.elim
  rename_i mm Al UH;obtain⟨hc,eI⟩:=ca hk;clear hk;simp only[Bool.and_eq_true]at hc;obtain⟨⟨⟨FD,zx⟩,hle⟩,pU⟩:=hc;have FD:=er FD;have zx:=er zx;have hle:=ng hle;have pU:=er pU;rw[aK.jq]at hle;obtain⟨hc,gu⟩:=ca eI;clear eI;simp only[Bool.and_eq_true]at hc;obtain⟨Ra,eV⟩:=hc;obtain⟨lL,hk⟩:=ca gu;have lL:=of_decide_eq_true lL;refine⟨_,hk,?_⟩;intro σ cx r m L F st a w he hh hg hd;subst FD pU;rw[zx]at UH;clear zx;obtain⟨base,cap,dC,Xc,_,hb⟩:=hg.aS (aF he hx);have BW:=BE Ra;have h0:=hh _ _ UH;obtain⟨_,iq,ir⟩:=hg.heap.obj id _ h0;obtain⟨ay,Td,news,Ok,UB,B0,nt,oX⟩:=sW hh hg.heap JV (hg.aS (aF he hy)) (fun e he=>(BW e he).1) dc;have h1:=B0.one (gE fun e he=>(BW e he).2);have rW:Src P ie.size u (a.eval y) fs.bm.length news w:=by
   rw[Ok,<- fo];exact GA Oh nt (oX.imp (fun h=>by rw[h];rfl) fun h=>h) h1
  have ua:(Al.part 0 len).bm=Al.bm.take len:=by rw[aK.qg];rfl
  have U4:(Al.part 0 len).bm.length=len:=by rw[ua];simp;omega
  have Fw:((Al.part 0 len).app fs).bm=Al.bm.take len++fs.bm:=by rw[aK.By,ua]
  have JX:(Al.part 0 len).len+fs.len=len+fs.bm.length:=by rw[aK.jq,aK.jq,U4]
  have Dt:((Al.part 0 len).app fs).bm.length=len+fs.bm.length:=by rw[aK.By,List.length_append,U4]
  have Ru:dj ei.size (Al.bm.take len):=fun e he=>iq e (List.mem_of_mem_take he);have Du:dj ei.size ((Al.part 0 len).app fs).bm:=by
   rw[Fw];intro e he;rcases List.mem_append.1 he with he|he
   ·exact Ru e he
   ·exact(BW e he).1
  rw[JX]at lL;rw[JX];have hold:∃ olds,(∀ w':World,(∀ x,w'.cell? x=w.cell? x)->(Builtin.firstCells ie.size len (.slice base len cap)).run P w' = .ok olds.toArray w')/\aq cx.yv L F w (Al.bm.take len).flatten olds/\olds.length=len*ie.size:=by
   rw[<- fo];by_cases JX:len=0
   ·subst JX
    refine⟨[],fun w' _=>?_,by simp[aq],by simp⟩
    cases base with
    | none=>exact run_firstCells_none w' _ 0 0 cap
    | some ad=>exact run_firstCells_some w' _ 0 ad 0 cap [] (by simp) (by simp)
   ·rcases hb with⟨h0,_⟩|⟨rfl,hb⟩
    ·omega
    rcases ir with⟨he,_⟩|⟨l,E,kM,jj,LI,FJ⟩
    ·rw[he]at hle;simp at hle;omega
    have ZI:len*ei.size<=Al.bm.length*ei.size:=Nat.mul_le_mul_right _ hle;refine⟨(l.toList.take (Al.bm.length*ei.size)).take (len*ei.size),fun w' Vk=>run_firstCells_some w' _ len _ len cap _ (by simp;omega) fun j v hv=>?_,by rw[ik _ iq];exact FJ.take _,by simp;omega⟩;rw[fh,Vk,cell_of_row _ _ _ _ _ _ kM];have hj:j<len*ei.size:=by have:=(List.getElem?_eq_some_iff.1 hv).1;simp at this;omega
    rw[List.getElem?_take_of_lt hj,List.getElem?_take_of_lt (by omega)]at hv;simpa using hv
  obtain⟨olds,hold,U1,Hz⟩:=hold;have PQ:aq cx.yv L F w ((Al.part 0 len).app fs).bm.flatten (olds++news):=by
   rw[Fw,List.flatten_append];exact U1.append B0
  have Ld:=hg.del id;by_cases rj:len+fs.bm.length<=cap
  ·rcases hb with⟨pa,mn⟩|⟨rfl,hb⟩
   ·
    have su:fs.bm.length=0:=by omega
    have IU:news = []:=List.length_eq_zero_iff.1 (by rw[nt,su];simp);rw[su,IU]at rW;have hr:=kF (P:=P) t u ty el wh mQ (base:=base) (sLen:=len) (sCap:=cap) rW Xc;have IP:((Al.part 0 len).app fs).bm = []:=List.length_eq_zero_iff.1 (by rw[Dt];omega);have te:=Ld.kb d ei.size (Ld.fy (hd d rfl)) dc ((Al.part 0 len).app fs) IP;exact⟨_,_,_,bN a w base len cap _ _ dC hr,.inl rfl,_,F,te.set (v:=.sl d ei.size 0 (len+fs.bm.length)) (hd d rfl) ⟨base,cap,(by rw[su];rfl),(by omega),dc,.inl ⟨(by omega),mn⟩⟩,Tr.refl F w⟩
   ·by_cases UA:cap=0
    ·
     have su:fs.bm.length=0:=by omega
     have IU:news = []:=List.length_eq_zero_iff.1 (by rw[nt,su];simp);rw[su,IU]at rW;have hr:=kF (P:=P) t u ty el wh mQ (base:=some ⟨L.ρ id,0*ei.size,none⟩) (sLen:=len) (sCap:=cap) rW Xc;have IP:((Al.part 0 len).app fs).bm = []:=List.length_eq_zero_iff.1 (by rw[Dt];omega);have te:=Ld.kb d ei.size (Ld.fy (hd d rfl)) dc ((Al.part 0 len).app fs) IP;exact⟨_,_,_,bN a w _ len cap _ _ dC hr,.inl rfl,_,F,te.set (v:=.sl d ei.size 0 (len+fs.bm.length)) (hd d rfl) ⟨_,cap,(by rw[su];rfl),(by omega),dc,.inl ⟨(by omega),UA⟩⟩,Tr.refl F w⟩
    ·
     rw[Nat.zero_add]at hb;have hκ:L.κ id≠0:=by
      have:0<cap*ei.size:=Nat.mul_pos (by omega) dc;omega
     rcases ir with⟨_,DC⟩|⟨l,E,kM,jj,LI,FJ⟩
     ·exact absurd DC hκ
     have hr:=run_append_room (P:=P) (ty:=ty) t u el wh mQ rW rj (b:=L.ρ id) (off:=0*ei.size) kM (by rw[jj,<- fo];simpa using hb);simp only[Nat.zero_mul,Nat.zero_add]at hr dC;have Ry:(len+fs.bm.length)*ei.size<=cap*ei.size:=Nat.mul_le_mul_right _ rj;rw[Nat.add_mul]at Ry;have ZN:news.length=fs.bm.length*ei.size:=nt;have abd:len*ie.size=len*ei.size:=by rw[fo]
     have hL:=Array.length_toList (xs:=l);have Ns:=ib (cs:=l.toList) (l:=news) (off:=len*ie.size) (by omega);generalize pb:(l.toList.take (len*ie.size)++news++l.toList.drop (len*ie.size+news.length)).toArray=c' at hr;have ce:c'.toList=l.toList.take (len*ie.size)++news++l.toList.drop (len*ie.size+news.length):=by rw[<- pb]
     have zG:c'.size=l.size:=by rw[<- ce]at Ns;simpa using Ns
     have tr:Tr F w F (w.setRow (L.ρ id) c'):=
      .iI rfl rfl rfl (by simp) (fun _=>Nat.le_refl _) hg.heap.fresh fun b _ hF=>setRow_other _ _ _ _ (by rintro rfl;have:=(hg.heap.own id _ h0 hκ).1;omega)
     have Rr:olds=l.toList.take (len*ie.size):=by
      have h2:=hold w (fun _=>rfl);have ZI:len*ei.size<=Al.bm.length*ei.size:=Nat.mul_le_mul_right _ hle;have h3:=run_firstCells_some (P:=P) w ie.size len ⟨L.ρ id,0*ei.size,none⟩ len cap (l.toList.take (len*ie.size)) (by rw[List.length_take,Array.length_toList,<- fo];omega) (fun j v hv=>by
       rw[fh,cell_of_row _ _ _ _ _ _ kM];have hj:j<len*ie.size:=by have:=(List.getElem?_eq_some_iff.1 hv).1;rw[List.length_take]at this;omega
       rw[List.getElem?_take_of_lt hj]at hv;simpa using hv)
      rw[h3]at h2;simp only[Result.ok.injEq,and_true]at h2;have:=congrArg Array.toList h2;simpa using this.symm
     obtain⟨g1,g2⟩:=hg.MJ (d:=d) (o:=.arr ei.size ((Al.part 0 len).app fs)) (hg.fy (hd d rfl)) h0 hκ (w':=w.setRow (L.ρ id) c') rfl rfl rfl (size_setRow _ _ _) (fun b hb=>setRow_other _ _ _ _ hb)
      (by rw[kM];intro ds e;cases e) (by rw[kM];intro lp e;cases e)
      ⟨dc,Du,.inr ⟨c',E,(by show(w.setRow _ c').heap[if d=d then L.ρ id else L.ρ d]?=_;rw[if_pos rfl];exact setRow_heap _ _ _ _ _ _ kM),(by rw[zG,jj];simp),(by rw[Dt,zG,jj,Nat.add_mul];omega),(by
       rw[Dt,ce];have e1:(len+fs.bm.length)*ei.size=(l.toList.take (len*ie.size)++news).length:=by
        rw[List.length_append,List.length_take,ZN,Nat.add_mul];omega
       rw[e1,List.take_left',<- Rr]
       ·exact aq.lY (L:=L) tr (fun i hi=>by simp[hi]) (pH eV) PQ
       ·rfl)⟩⟩
     exact⟨_,_,_,bN a w _ len cap _ _ dC hr,.inl rfl,_,F,g1.set (v:=.sl d ei.size 0 (len+fs.bm.length)) (hd d rfl) ⟨_,_,rfl,rj,dc,.inr ⟨(by simp),(by simp;exact hb)⟩⟩,g2⟩
  ·have:=u9 (P:=P) (ty:=ty) (tx:=u) (x:=a.eval y) Ld (hd d rfl) wh mQ hz Qa (by omega) (by omega) (base:=base) (len:=len) (cap:=cap) (n:=fs.bm.length) (olds:=olds) (news:=news) hold Hz rW (by omega) (by rw[<- rQ];exact lL)
    (es:=(Al.part 0 len).app fs) Dt (by rw[<- fo];exact Du) PQ (pH eV)
   obtain⟨v,w',L',F',hv,te,tr⟩:=this;rw[<- fo]at te;exact⟨v,w',_,bN a w base len cap v w' dC hv,.inl rfl,L',F',te,tr⟩
 ·exact hk.elim
end
theorem qI:∀ {xs ys:List D} {r:Bool},cQ xs ys=some r->xs.length=ys.length
 | [],[],_,_=>rfl
 | [],_::_,_,h=>by simp[cQ]at h
 | _::_,[],_,h=>by simp[cQ]at h
 | a::xs,b::ys,r,h=>by
  simp only[cQ]at h;split at h
  ·rename_i hq;simp[qI hq]
  ·cases h
theorem ql:∀ {xs ys:List D} {r:Bool} (n:Nat),cQ xs ys=some r -> ∃ p q,cQ (xs.take n) (ys.take n)=some p/\cQ (xs.drop n) (ys.drop n)=some q/\r=(p&&q)
 | xs,ys,r,0,h=>⟨true,r,by simp[cQ],h,by simp⟩
 | [],[],r,n+1,h=>⟨true,r,by simp[cQ],h,by simp⟩
 | [],_::_,_,_+1,h=>by simp[cQ]at h
 | _::_,[],_,_+1,h=>by simp[cQ]at h
 | a::xs,b::ys,r,n+1,h=>by
  simp only[cQ]at h;split at h;case h_2=>cases h
  rename_i p q hp hq;cases h;obtain⟨p',q',h1,h2,rfl⟩:=ql n hq;exact⟨p&&p',q',by simp[cQ,hp,h1],by simpa using h2,by rw[Bool.and_assoc]⟩
theorem Gx{a b:D}(h:vO a b=some true):a=b:=by
 unfold vO at h;split at h
 ·split at h
  ·rename_i he
   rw[of_decide_eq_true he,of_decide_eq_true (Option.some.inj h)]
  ·cases h
 ·cases h
theorem Gw{a b:D}(h:nK a b=some true):a=b:=by
 unfold nK at h;split at h
 ·split at h
  ·rename_i he
   rw[of_decide_eq_true he,of_decide_eq_true (Option.some.inj h)]
  ·cases h
 ·rename_i a b
  cases a<;>cases b<;>simp_all
 ·split at h
  ·rename_i ht
   rw[Nat.eq_of_beq_eq_true ht,Gx h]
  ·cases h
  ·cases h
 ·cases h
theorem zd:∀ {xs ys:List D},cQ xs ys=some true->xs=ys
 | [],[],_=>rfl
 | [],_::_,h=>by simp[cQ]at h
 | _::_,[],h=>by simp[cQ]at h
 | a::xs,b::ys,h=>by
  simp only[cQ]at h;split at h;case h_2=>cases h
  rename_i p q hp hq;simp only[Option.some.injEq,Bool.and_eq_true]at h;obtain⟨rfl,rfl⟩:=h;rw[zd hq]
  congr 1
  exact Gw hp
section
variable {P : Program} {T : e7} {F : Nat -> Nat} {w : World}
theorem uU{xs ys:List D}{r:Bool}(hl:xs.length=1)(h:cQ xs ys=some r):∃ a b,xs = [a]/\ys = [b]/\nK a b=some r:=by
 have N9:=qI h;obtain⟨a,rfl⟩:=List.length_eq_one_iff.1 hl;obtain⟨b,rfl⟩:=List.length_eq_one_iff.1 (by rw[<- N9];rfl);refine⟨a,b,rfl,rfl,?_⟩;simp only[cQ]at h;split at h
 ·rename_i hp hq
  cases hq;simpa[hp]using h
 ·cases h
theorem A8{k:IntKind}{a:Int}{b:D}{r:Bool}(h:vO (.int k a) b=some r):∃ c,b = .int k c/\r=decide (a=c):=by
 unfold vO at h;split at h
 ·rename_i k1 a1 k2 b1 e
  cases e;split at h
  ·rename_i he
   have:=of_decide_eq_true he;subst this;exact⟨_,rfl,(Option.some.inj h).symm⟩
  ·cases h
 ·cases h
theorem int_eq{N:Nat}{t:TypeId}{k0 k:IntKind}(gP:P.underlying t=some (.int k0)){a c:Int}:(Op.equalIn (N+1) t (.int k a) (.int k c)).run P w = .ok (decide (a=c)) w:=
 (run_equalIn_int w N t _ _ _ _ gP).trans (by simp;rfl)
theorem lA{N:Nat}{t:TypeId}{dk:TypeDesc}(gP:P.underlying t=some dk)(BU:(∃ k,dk = .int k)\/dk = .bool){x:Value}(em:Bool):(Instr.checkKey em (N+1) t x).run P w = .ok () w:=by
 unfold Instr.checkKey;rcases BU with⟨k,rfl⟩|rfl<;>simp[run_underlying gP]
def Bs(P:Program)(T:e7)(F:Nat->Nat)(w:World)(N d:Nat)(t:TypeId)(n:Nat):Prop:=
 (∃ ti,T.get t=some ti/\ti.size=n) /\ ∀ (xs ys:List D) (r:Bool),xs.length=n->qQ T d t xs=true->cQ xs ys=some r -> ∀ x y,px T F w t xs x->px T F w t ys y ->
  (Op.equalIn N t x y).run P w = .ok r w /\ ∀ em,(Instr.checkKey em N t x).run P w = .ok () w
theorem iJ{α:Type}(xs:List α){n c m:Nat}(h:n+c<=m) :
  (((xs.drop n).take (m-n)).take c=(xs.drop n).take c)/\(((xs.drop n).take (m-n)).drop c=(xs.drop (n+c)).take (m-(n+c))):=by
 constructor
 ·rw[List.take_take,Nat.min_eq_left (by omega)]
 ·rw[List.drop_take,List.drop_drop]
  congr 1
  omega
theorem s5 (hT : bA P T) {N d : Nat} {f : TypeId -> Option Nat} (hf : ∀ t c, f t = some c -> Bs P T F w N d t c) : ∀ (fs : List Field), (∀ f ∈ fs, (f.name == "_") = false) -> ∀ (n m : Nat), pL f (fs.map fun f => (f.offset, f.type)) n = some m ->
  n<=m /\ ∀ (xs ys:List D) (r:Bool) (lx ly:Array Value),bc F w xs lx.toList->bc F w ys ly.toList->Au T (fun t xs=>qQ T d t xs) (fs.map fun f=>(f.offset,f.type)) xs=true->m<=xs.length->m<=ys.length->cQ ((xs.drop n).take (m-n)) ((ys.drop n).take (m-n))=some r ->
   (Op.eqFields N lx ly fs).run P w = .ok r w /\
   ∀ em, (forIn (m := Sem) fs PUnit.unit fun f _ => (if f.name ≠ "_" then do
     Instr.checkKey em N f.type (<- part f.type lx f.offset)
     pure (ForInStep.yield PUnit.unit)
    else pure (ForInStep.yield PUnit.unit))).run P w = .ok PUnit.unit w
 | [],_,n,m,h=>by
  simp only[List.map_nil,pL,Option.some.injEq]at h;subst h;refine⟨Nat.le_refl _,fun xs ys r lx ly _ _ _ _ _ h=>?_⟩;simp[cQ]at h;subst h;simp[Op.eqFields]
 | g::fs,ym,n,m,h=>by
  simp only[List.map_cons,pL]at h;split at h;case h_2=>cases h
  rename_i c pU hc;have pU:=er pU;obtain⟨⟨ti,ic,dc⟩,gh⟩:=hf _ _ hc;obtain⟨hle,LF⟩:=s5 hT hf fs (fun g hg=>ym g (List.mem_cons_of_mem _ hg)) _ _ h;refine⟨by omega,fun xs ys r lx ly ss uE DD Xk hym hs=>?_⟩;simp only[List.map_cons,Au,ic]at DD;split at DD;case h_2=>cases DD
  rename_i eI;obtain⟨p,q,hp,hq,rfl⟩:=ql (c+1) hs;rw[(iJ xs hle).1,(iJ ys hle).1]at hp;rw[(iJ xs hle).2,(iJ ys hle).2]at hq;have Og:ti.size=c+1:=dc;obtain⟨x,hx,Oi⟩:=kj (F:=F) (w:=w) hT ic ss (off:=g.offset) (by omega) (by omega);obtain⟨y,hy,Oj⟩:=kj (F:=F) (w:=w) hT ic uE (off:=g.offset) (by omega) (by omega);rw[Og,pU]at Oi Oj;rw[Og,pU]at eI;obtain⟨h1,h2⟩:=gh _ _ p (by simp;omega) eI hp x y Oi Oj;obtain⟨h3,h4⟩:=LF xs ys q lx ly ss uE DD Xk hym hq
  have Xh : g.name ≠ "_" := by
   have:=ym g (List.mem_cons_self ..);simpa using this
  refine⟨?_,fun em=>?_⟩
  ·simp only[Op.eqFields,Xh,ne_eq,not_false_eq_true,if_true,Sem.run_bind,hx,hy,Result.andThen_ok,h1]
   cases p
   ·simp
   ·simp[h3]
  ·simp only[List.forIn_cons,Sem.run_bind,Xh,ne_eq,not_false_eq_true,if_true,Result.andThen_ok,hx,h2 em,Sem.run_pure]
   exact h4 em
theorem s6(hT:bA P T){N d:Nat}{e:TypeId}{c:Nat}(he:Bs P T F w N d e (c+1)):∀ (n i:Nat) (xs ys:List D) (r:Bool) (lx ly:Array Value),bc F w xs lx.toList->bc F w ys ly.toList->Av (fun xs=>qQ T d e xs) (c+1) n (xs.drop (i*(c+1)))=true->xs.length=(i+n)*(c+1)->ys.length=(i+n)*(c+1) ->
  cQ (xs.drop (i*(c+1))) (ys.drop (i*(c+1)))=some r ->
   (Op.eqItems N e (c+1) lx ly (List.range' i n)).run P w = .ok r w /\
   ∀ em,(forIn (m:=Sem) (List.range' i n) PUnit.unit fun j _=>(do
    Instr.checkKey em N e (<- part e lx (j*(<- sizeOf e)))
    pure (ForInStep.yield PUnit.unit))).run P w = .ok PUnit.unit w
 | 0,i,xs,ys,r,lx,ly,ss,uE,_,HF,LO,hs=>by
  have e1:xs.drop (i*(c+1)) = []:=List.drop_eq_nil_of_le (by rw[HF];simp);have e2:ys.drop (i*(c+1)) = []:=List.drop_eq_nil_of_le (by rw[LO];simp);rw[e1,e2]at hs;simp only[cQ,Option.some.injEq]at hs;subst hs;simp[Op.eqItems]
 | n+1,i,xs,ys,r,lx,ly,ss,uE,DD,HF,LO,hs=>by
  simp only[Av]at DD;split at DD;case h_2=>cases DD
  rename_i eI;obtain⟨⟨ti,ic,dc⟩,gh⟩:=he;have e1:(i+1)*(c+1)=i*(c+1)+(c+1):=Nat.succ_mul _ _;have e2:(i+(n+1))*(c+1)=i*(c+1)+n*(c+1)+(c+1):=by rw[Nat.add_mul,Nat.succ_mul];omega
  have e3:(i+1+n)=i+(n+1):=by omega
  obtain⟨p,q,hp,hq,rfl⟩:=ql (c+1) hs;obtain⟨x,hx,Oi⟩:=kj (F:=F) (w:=w) hT ic ss (off:=i*(c+1)) (by omega) (by omega);obtain⟨y,hy,Oj⟩:=kj (F:=F) (w:=w) hT ic uE (off:=i*(c+1)) (by omega) (by omega);rw[dc]at Oi Oj;obtain⟨h1,h2⟩:=gh _ _ p (by simp;omega) eI hp x y Oi Oj;rw[List.drop_drop,List.drop_drop,<- e1]at hq;rw[List.drop_drop,<- e1]at DD;obtain⟨h3,h4⟩:=s6 hT ⟨⟨ti,ic,dc⟩,gh⟩ n (i+1) xs ys q lx ly ss uE DD (by rw[e3];exact HF) (by rw[e3];exact LO) hq;have fo:(sizeOf e).run P w = .ok (c+1) w:=by rw[<- dc];exact e5 hT ic
  refine⟨?_,fun em=>?_⟩
  ·simp only[List.range'_succ,Op.eqItems,Sem.run_bind,hx,hy,Result.andThen_ok,h1]
   cases p
   ·simp
   ·simp[h3]
  ·simp only[List.range'_succ,List.forIn_cons,Sem.run_bind,fo,Result.andThen_ok,hx,h2 em,Sem.run_pure]
   exact h4 em
theorem rM(hT:bA P T):∀ (d:Nat) (t:TypeId) (n:Nat),flat T d t=some n -> ∀ N,d<=N->Bs P T F w N d t n
 | 0,_,_,h,_,_=>by simp[flat]at h
 | d+1,t,n,h,0,hN=>by omega
 | d+1,t,n,h,N+1,hN=>by
  simp only[flat]at h;split at h
  ·cases h
  rename_i ti ic;obtain⟨i,de,hi,gP,_,_,eP,pd,UP,_⟩:=hT t ti ic;split at h
  ·rename_i k hk
   have e:=nz (eP▸hk);subst e;split at h;case h_2=>cases h
   rename_i rV;cases h;refine⟨⟨ti,ic,er rV⟩,fun xs ys r hl yj hs x y hx hy=>?_⟩;obtain⟨a,b,rfl,rfl,CG⟩:=uU hl hs;have jT:=hx ti ic;have oz:=hy ti ic;rw[pd]at jT oz;have ex:=jT _ rfl;have ey:=oz _ rfl;simp only[qQ,ic,hk]at yj;split at yj;case h_2=>cases yj
   rename_i k1 a1 e1;cases e1;obtain⟨c,rfl,rfl⟩:=A8 (k:=k1) (a:=a1) (b:=b) (r:=r) (by revert CG;cases b<;>simp[nK,vO]);cases ex;cases ey
   exact⟨int_eq gP,fun em=>lA gP (.inl ⟨_,rfl⟩) em⟩
  ·rename_i hk
   have e:=qC (eP▸hk);subst e;split at h;case h_2=>cases h
   rename_i rV;cases h;refine⟨⟨ti,ic,er rV⟩,fun xs ys r hl yj hs x y hx hy=>?_⟩;obtain⟨a,b,rfl,rfl,CG⟩:=uU hl hs;have jT:=hx ti ic;have oz:=hy ti ic;rw[pd]at jT oz;have ex:=jT _ rfl;have ey:=oz _ rfl;simp only[qQ,ic,hk]at yj;split at yj;case h_2=>cases yj
   rename_i a1 e1;cases e1;cases b<;>simp only[nK]at CG<;>try (cases CG;done)
   cases ex;cases ey
   refine⟨?_,fun em=>lA gP (.inr rfl) em⟩;rw[Op.equalIn];simp only[Sem.run_bind,run_underlying gP,Result.andThen_ok,Sem.run_pure];rw[Option.some.inj CG]
  ·rename_i hk
   obtain⟨ms,e⟩:=yx (eP▸hk);subst e;split at h;case h_2=>cases h
   rename_i d' rV;cases h;refine⟨⟨ti,ic,er rV⟩,fun xs ys r hl yj hs x y hx hy=>?_⟩;obtain⟨a,b,rfl,rfl,CG⟩:=uU hl hs;have jT:=hx ti ic;have oz:=hy ti ic;rw[pd]at jT oz;have ex:=jT _ rfl;have ey:=oz _ rfl;simp only[qQ,ic,hk]at yj;split at yj;case h_2=>cases yj
   rename_i u k a1 e1;cases e1;split at yj;case h_2=>cases yj
   rename_i ui SQ;split at yj;case h_2=>cases yj
   rename_i k' eI Ln;have:=of_decide_eq_true yj;subst this;obtain⟨iu,du,SH,Q6,_,_,ZE,_,Zx,_⟩:=hT u ui SQ;have eu:=nz (ZE.symm.trans eI);subst eu;have UD:=(Zx Ln).2 k eI;obtain⟨N',rfl⟩:∃ N',N=N'+1:=⟨N-1,by omega⟩;obtain⟨v,rfl,hv⟩:=ex;have hv:v = .int k a1:=hv;subst hv;refine⟨?_,fun em=>?_⟩
   ·cases b<;>simp only[nK]at CG<;>try (cases CG;done)
    rename_i u' b1;obtain⟨v',rfl,LL⟩:=ey;split at CG
    ·rename_i hu
     have:=Nat.eq_of_beq_eq_true hu;subst this;obtain⟨c,rfl,rfl⟩:=A8 CG;have LL:v' = .int k c:=LL;subst LL;rw[Op.equalIn];simp only[Sem.run_bind,run_underlying gP,Result.andThen_ok];simp[typeInfo,SH,UD,Sem.run_bind,int_eq Q6]
    ·rename_i hu hn
     cases CG;have eW:u≠u':=by rintro rfl;simp at hu
     rw[Op.equalIn];simp only[Sem.run_bind,run_underlying gP,Result.andThen_ok];simp[eW]
    ·cases CG
   ·rw[Instr.checkKey]
    simp only[Sem.run_bind,run_underlying gP,Result.andThen_ok];simp[typeInfo,SH,UD,lA Q6 (.inl ⟨_,rfl⟩)]
  ·rename_i fs hk
   obtain⟨fa,rfl,rfl,ym⟩:=jc (eP▸hk);split at h;case h_2=>cases h
   rename_i m Lo hm;split at h;case h_2=>cases h
   rename_i rV;cases h;have FA:P.stoodInHeld t=false:=(UP Lo).1;refine⟨⟨ti,ic,er rV⟩,fun xs ys r hl yj hs x y hx hy=>?_⟩;simp only[qQ,ic,hk]at yj;have N9:=qI hs;have jT:=hx ti ic;have oz:=hy ti ic;rw[pd]at jT oz;simp only[sG,if_true]at jT oz;obtain⟨lx,rfl,ss⟩:=jT;obtain⟨ly,rfl,uE⟩:=oz;obtain⟨_,hF⟩:=s5 (P:=P) (F:=F) (w:=w) hT (N:=N) (fun t c h=>rM hT d t c h N (by omega)) fa.toList ym 0 _ hm;obtain⟨h1,h2⟩:=hF xs ys r lx ly ss uE yj (by omega) (by omega) (by
    simp only[List.drop_zero,Nat.sub_zero];rw[List.take_of_length_le (by omega),List.take_of_length_le (by omega)];exact hs)
   have BW:P.fieldsOf t=fa:=by simp[Program.fieldsOf,gP]
   refine⟨by rw[run_equalIn_struct w N t lx ly (by rw[BW];exact gP) FA,BW];exact h1,fun em=>?_⟩;rw[Instr.checkKey];simp only[Sem.run_bind,run_underlying gP,Result.andThen_ok];rw[<- Array.forIn_toList];rw[h2 em];rfl
  ·rename_i m e hk
   have e':=gi (eP▸hk);subst e';split at h;case h_2=>cases h
   rename_i c hc;split at h;case h_2=>cases h
   rename_i rV;cases h;refine⟨⟨ti,ic,er rV⟩,fun xs ys r hl yj hs x y hx hy=>?_⟩;simp only[qQ,ic,hk]at yj;have N9:=qI hs;have jT:=hx ti ic;have oz:=hy ti ic;rw[pd]at jT oz;simp only[sG,if_true]at jT oz;obtain⟨lx,rfl,ss⟩:=jT;obtain⟨ly,rfl,uE⟩:=oz;have he:=rM hT d e (c+1) hc N (by omega);obtain⟨ei0,abb⟩:∃ ei,T.get e=some ei:=by obtain⟨⟨ei,jS,_⟩,_⟩:=he;exact⟨ei,jS⟩
   obtain⟨h1,h2⟩:=s6 hT he m 0 xs ys r lx ly ss uE (by
    obtain⟨⟨ei,jS,Q8⟩,_⟩:=he;simp only[jS,Q8]at yj;simpa using yj) (by rw[Nat.zero_add];exact hl) (by rw[Nat.zero_add,<- N9];exact hl) (by simpa using hs)
   obtain⟨⟨ei,jS,Q8⟩,_⟩:=he;obtain⟨ie,_,mQ,_,fo,_⟩:=hT e ei jS;have Dy:P.cellsOf e=c+1:=by simp[Program.cellsOf,mQ,<- fo,Q8]
   refine⟨by rw[run_equalIn_array w N lx ly gP mQ,Dy,List.range_eq_range'];exact h1,fun em=>?_⟩;rw[Instr.checkKey];simp only[Sem.run_bind,run_underlying gP,Result.andThen_ok];simp only[Std.Legacy.Range.forIn_eq_forIn_range',Std.Legacy.Range.size,Nat.sub_zero,Nat.add_one_sub_one,Nat.div_one];rw[h2 em];rfl
  ·cases h
end
end Go.PX
