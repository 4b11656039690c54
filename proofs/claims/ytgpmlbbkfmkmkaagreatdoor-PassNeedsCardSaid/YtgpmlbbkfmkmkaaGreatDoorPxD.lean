import Derived.Test.YtgpmlbbkfmkmkaaGreatDoorPxC
import Derived.Deep.AppendSrc
import Derived.ChangeKeysEq
set_option linter.all false
namespace Go.PX
open Go.RowKit
section
variable {σ : Type} {cx : Cx σ} {r : Option Nat} {m : List Nat} {L : Loc} {F : Nat -> Nat} {st : St σ} {a : Act} {w : World}
theorem Good.retake(hh:Good cx r m L F st a w){id d:Nat}{o0 o:Obj}(hpd:¬ pinned d)(h0:get st.heap id=some o0)(hb0:Backed L id o0){w':World}
  (hos:w'.os=w.os) (ht:w'.tape=w.tape) (hu:w'.output=w.output) (hsz:w'.heap.size=w.heap.size) (hk:∀ b,b≠L.ρ id->w'.heap[b]?=w.heap[b]?)
  (hnd:∀ ds,w.heap[L.ρ id]?≠some (.deferred ds)) (hnl:∀ lp,w.heap[L.ρ id]?≠some (.loop lp))
  (ho:RepO cx.yv ⟨fun i=>if i=d then L.ρ id else L.ρ i,fun i=>if i=d then L.κ id else L.κ i⟩ F w' d o) :
  Good cx r m ⟨fun i=>if i=d then L.ρ id else L.ρ i,fun i=>if i=d then L.κ id else L.κ i⟩ F (zf (zf st (.del id)) (.new d o)) a w'/\Tr F w F w':=by
 obtain⟨hF,hnC⟩:=hh.heap.own id o0 h0 hb0;have tr:Tr F w F w':=.of_keep hos ht hu (by omega) (fun _=>Nat.le_refl _) hh.heap.fresh fun b _ hF'=>hk b (by rintro rfl;omega);have hC:∀ c,cx.C st.s c->w'.heap[c]?=w.heap[c]?:=fun c hc=>hk c (by rintro rfl;exact hnC hc);have hg:∀ i o',get (zf (zf st (.del id)) (.new d o)).heap i=some o'->(i=d/\o'=o)\/(i≠d/\i≠id /\ ∃ o1,get st.heap i=some o1/\o'=Obj.mapId (qz d) o1):=by
  intro i o' hi;simp only[zf,qI,jq,qQ,zZ]at hi;split at hi
  ·rename_i e;left;exact⟨e,by cases hi;rfl⟩
  ·rename_i e
   right;by_cases hid:i=id
   ·simp[hid]at hi
   ·refine⟨e,hid,?_⟩
    cases h1:get st.heap i with
    | none=>simp[h1]at hi
    | some o1=>simp[h1,hid]at hi;exact⟨o1,rfl,hi.symm⟩
 have key:∀ i o',get (zf (zf st (.del id)) (.new d o)).heap i=some o'->i≠d->Backed ⟨fun i=>if i=d then L.ρ id else L.ρ i,fun i=>if i=d then L.κ id else L.κ i⟩ i o'->i≠id /\ ∃ o1,get st.heap i=some o1/\Backed L i o1:=by
  intro i o' hi hne hb;rcases hg i o' hi with⟨rfl,rfl⟩|⟨_,hid,o1,h1,rfl⟩
  ·exact absurd rfl hne
  ·refine⟨hid,o1,h1,?_⟩
   have:=(jr _ d i o1).1 hb;cases o1<;>simp_all[Backed]
 refine⟨⟨⟨cx.stable hh.heap.hg tr (fun c hc=>hh.heap.fresh c (by omega)) fun c hc=>⟨hC c hc,rfl⟩,fun c hc=>by rw[hsz];exact hh.heap.csz c hc,fun c hc=>hh.heap.fresh c (by omega),?_,?_,?_⟩,?_,hh.dfr,?_,hh.mnd,?_,fun i hi=>?_,hh.tsz⟩,tr⟩
 ·intro i o' hi
  rcases hg i o' hi with⟨rfl,rfl⟩|⟨hne,hid,o1,h1,rfl⟩
  ·exact ho
  ·refine RepO.mono (L:=L) tr i _ (fun j hj=>?_) ⟨by simp[hne],by simp[hne]⟩ (fun hb=>hk _ ?_) (RepO.kill d i o1 (hh.heap.obj i o1 h1))
   ·have:j≠d:=by rintro rfl;exact qeG j o1 hj
    simp[this]
   ·intro e
    exact hid (hh.heap.inj i id o1 o0 h1 h0 ((jr L d i o1).1 hb) hb0 e)
 ·intro i o' hi hb
  by_cases hie:i=d
  ·subst hie;simp only[if_true];exact⟨hF,hnC⟩
  ·obtain⟨_,o1,h1,hb1⟩:=key i o' hi hie hb
   simp only[hie,if_false];exact hh.heap.own i o1 h1 hb1
 ·intro i j o' p hi hj hbi hbj e
  by_cases hie:i=d<;>by_cases hje:j=d
  ·rw[hie,hje]
  ·exfalso
   obtain⟨hjid,p1,hp1,hbp⟩:=key j p hj hje hbj;simp[hie,hje]at e;exact hjid (hh.heap.inj j id p1 o0 hp1 h0 hbp hb0 e.symm)
  ·exfalso
   obtain⟨hiid,p1,hp1,hbp⟩:=key i o' hi hie hbi;simp[hie,hje]at e;exact hiid (hh.heap.inj i id p1 o0 hp1 h0 hbp hb0 e)
  ·obtain⟨_,o1,ho1,hb1⟩:=key i o' hi hie hbi
   obtain⟨_,p1,hp1,hbp⟩:=key j p hj hje hbj;simp only[hie,hje,if_false]at e;exact hh.heap.inj i j o1 p1 ho1 hp1 hb1 hbp e
 ·intro s v hs
  simp only[zf,qQ]at hs
  cases h1:get st.env s with
  | none=>simp[h1]at hs
  | some v0=>
   simp[h1]at hs;subst hs;obtain⟨x,hx,hr⟩:=hh.env s v0 h1;refine⟨x,hx,RepV.mono tr _ x (fun j hj=>?_) (RepV.kill d v0 x hr)⟩;have:j≠d:=by rintro rfl;exact qcA j v0 hj
   simp[this]
 ·intro b hb
  have:=(hh.mks b hb).1;exact⟨by rw[hk b (by rintro rfl;exact hnd _ this)];exact this,(hh.mks b hb).2⟩
 ·intro l hl
  obtain⟨lp,hlp⟩:=hh.lk l hl;exact⟨lp,⟨by rw[hk l (by rintro rfl;exact hnl _ hlp.1.1)];exact hlp.1.1,hlp.1.2⟩,hlp.2⟩
 ·have:i≠d:=by rintro rfl;exact hpd hi
  simp only[this,if_false];exact hh.pin i hi
end
theorem Els.len_eq(c:Els):c.len=c.toV.length:=by
 cases c<;>simp[Els.len,Els.toV,qZ]
theorem Els.part_toV(c:Els)(off n:Nat):(c.part off n).toV=(c.toV.drop off).take n:=by
 cases c<;>simp[Els.part,Els.toV,qZ,List.map_drop,List.map_take]
theorem Els.app_toV(c x:Els):(c.app x).toV=c.toV++x.toV:=by
 cases c<;>cases x<;>simp[Els.app,Els.toV,qZ]
theorem qay{α:Type}{sz:Nat}:∀ {es:List (List α)} (n:Nat),zL sz es->(es.take n).flatten=es.flatten.take (n*sz)
 | [],n,_=>by simp
 | f::es,0,_=>by simp
 | f::es,n+1,h=>by
  have hf:=h f (List.mem_cons_self ..);have e1:(n+1)*sz=f.length+n*sz:=by rw[Nat.succ_mul];omega
  rw[List.take_succ_cons,List.flatten_cons,List.flatten_cons,qay n (fun e he=>h e (List.mem_cons_of_mem _ he)),e1,List.take_length_add_append]
theorem qdN{α:Type}{sz:Nat}:∀ {es:List (List α)} (n:Nat),zL sz es->(es.drop n).flatten=es.flatten.drop (n*sz)
 | [],n,_=>by simp
 | f::es,0,_=>by simp
 | f::es,n+1,h=>by
  have hf:=h f (List.mem_cons_self ..);have e1:(n+1)*sz=f.length+n*sz:=by rw[Nat.succ_mul];omega
  rw[List.drop_succ_cons,List.flatten_cons,qdN n (fun e he=>h e (List.mem_cons_of_mem _ he)),e1,List.drop_length_add_append]
section
variable {yv : Option Nat} {L : Loc} {F : Nat -> Nat} {w : World}
theorem RepEs.cells{b off sz:Nat}:∀ {es:List (List D)},RepEs F w b off sz es -> ∃ l:List Value,RepDL F w es.flatten l/\l.length=es.length*sz /\ ∀ (j:Nat) v,l[j]?=some v->w.cell? ⟨b,off+j,none⟩=some v:=by
 intro es;have at_:∀ {cs:List D} {o:Nat},RepAt F w b o cs -> ∃ l:List Value,RepDL F w cs l /\ ∀ (j:Nat) v,l[j]?=some v->w.cell? ⟨b,o+j,none⟩=some v:=by
  intro cs
  induction cs with
  | nil=>intro o _;exact⟨[],rfl,by simp⟩
  | cons c r ih=>
   intro o h;obtain⟨_,⟨x,hx,hc⟩,hr⟩:=h;obtain⟨l,hl,hj⟩:=ih hr;refine⟨x::l,⟨x,l,rfl,hc,hl⟩,fun j v hv=>?_⟩
   cases j with
   | zero=>simp at hv;subst hv;exact hx
   | succ j=>
    have:=hj j v (by simpa using hv);rw[Nat.add_assoc,Nat.add_comm 1 j]at this;exact this
 induction es generalizing off with
 | nil=>intro _;exact⟨[],rfl,by simp,by simp⟩
 | cons e r ih=>
  intro h;obtain⟨he,ha,hr⟩:=h;obtain⟨l1,h1,j1⟩:=at_ ha;obtain⟨l2,h2,e2,j2⟩:=ih hr;have e1:=h1.length;refine⟨l1++l2,?_,by simp[e1,e2,he,Nat.succ_mul];omega,fun j v hv=>?_⟩
  ·rw[List.flatten_cons]
   have:=RepVL.append (yv:=none) (L:=⟨fun _=>0,fun _=>0⟩) (RepVL.inj.2 h1) (RepVL.inj.2 h2);rw[<- qbH]at this;exact RepVL.inj.1 this
  ·by_cases hj:j<l1.length
   ·rw[List.getElem?_append_left hj]at hv;exact j1 j v hv
   ·rw[List.getElem?_append_right (by omega)]at hv
    have:=j2 _ v hv;have e:off+sz+(j-l1.length)=off+j:=by omega
    rw[e]at this;exact this
theorem qhc{σ':Type}{h:Heap}{s:σ'}{cx:Cx σ'}{hp:Heap}(hs:qaF h hp)(hg:HeapOk cx L F hp s w){v:V}{fs:Els}(hf:qhp h v=some fs){y:Value}(hr:RepV cx.yv L F w v y){sz:Nat}(hl:∀ e∈fs.toV,e.length=sz)(hsz:0<sz) :
  ∃ (ay:Option Addr) (cap:Nat) (news:List Value),y = .slice ay fs.toV.length cap/\fs.toV.length<=cap/\RepVL cx.yv L F w fs.toV.flatten news/\news.length=fs.toV.length*sz /\
   (fs.toV = [] \/ ∃ b off,ay=some ⟨b,off,none⟩ /\ ∀ (j:Nat) v,news[j]?=some v->w.cell? ⟨b,off+j,none⟩=some v):=by
 unfold qhp at hf;split at hf
 ·rename_i es
  cases hf;obtain⟨a0,len,cap,rfl,hlen,hcap,hes⟩:=hr;have e1:(Els.dd es).toV.length=es.length:=by simp[Els.toV,qZ]
  by_cases hne:es = []
  ·subst hne
   refine⟨a0,cap,[],by rw[hlen];rfl,Nat.zero_le _,rfl,by simp[Els.toV,ze],.inl rfl⟩
  ·obtain⟨b,off,sz',rfl,hsz0,hat⟩:=hes hne
   have hszz:sz'=sz:=by
    cases es with
    | nil=>exact absurd rfl hne
    | cons x r=>
     have:=hl (inj x) (by simp[Els.toV,ze]);rw[jl]at this;exact hat.1.symm.trans this
   subst hszz;obtain⟨l,h1,h2,h3⟩:=RepEs.cells hat;refine⟨_,cap,l,by rw[hlen,e1],by rw[e1,<- hlen];exact hcap,?_,by rw[h2,e1],.inr ⟨b,off,rfl,h3⟩⟩;show RepVL _ _ _ _ (ze es).flatten l;rw[zW];exact RepVL.inj.2 h1
 ·cases hf
  have hr:y = .slice none 0 0:=hr;exact⟨none,0,[],hr,Nat.le_refl _,rfl,by simp[Els.toV,ze],.inl rfl⟩
 ·rename_i id z off n
  split at hf;case h_2=>cases hf
  rename_i m es hes;split at hf;case h_2=>cases hf
  rename_i hc1 hc2;cases hf;have hc1:=qah hc1;have hc2:=qga hc2;subst hc1;rw[Els.len_eq]at hc2;obtain⟨a0,cap,rfl,hcap,hz0,hb⟩:=hr;have e1:(es.part off n).toV.length=n:=by rw[Els.part_toV];simp;omega
  obtain⟨_,hlens,hrest⟩:=hg.obj id _ (hs _ _ hes);by_cases hn0:n=0
  ·subst hn0
   have e0:(es.part off 0).toV = []:=by rw[Els.part_toV];simp
   exact⟨a0,cap,[],by rw[e0];rfl,by rw[e0];exact Nat.zero_le _,by rw[e0];rfl,by rw[e0];simp,.inl e0⟩
  ·rcases hb with⟨h0,_⟩|⟨rfl,hb⟩
   ·omega
   have hmsz:m=sz:=by
    have hx:off<es.toV.length:=by omega
    have:=hl es.toV[off] (by rw[Els.part_toV];exact List.mem_iff_getElem?.2 ⟨0,by rw[List.getElem?_take_of_lt (by omega),List.getElem?_drop];simp[hx]⟩);rw[<- this];exact(hlens _ (List.getElem_mem _)).symm
   subst hmsz;rcases hrest with⟨he,_⟩|⟨l,E,hl',hk,hszl,hrr⟩
   ·rw[he]at hc2;simp at hc2;omega
   have hflat:(es.part off n).toV.flatten=(es.toV.flatten.drop (off*m)).take (n*m):=by
    rw[Els.part_toV,qay _ (fun e he=>hlens e (List.mem_of_mem_drop he)),qdN _ hlens]
   have hle:(off+n)*m<=es.toV.length*m:=Nat.mul_le_mul_right _ hc2;rw[Nat.add_mul]at hle;refine⟨_,cap,((l.toList.take (es.toV.length*m)).drop (off*m)).take (n*m),by rw[e1],by rw[e1];exact hcap,by rw[hflat];exact(hrr.drop _).take _,?_,.inr ⟨_,_,rfl,fun j v hv=>?_⟩⟩
   ·rw[e1];simp;omega
   ·rw[cell_of_row _ _ _ _ _ _ hl']
    have hj:j<n*m:=by have:=(List.getElem?_eq_some_iff.1 hv).1;simp at this;omega
    rw[List.getElem?_take_of_lt hj,List.getElem?_drop,List.getElem?_take_of_lt (by omega)]at hv;simpa using hv
 ·cases hf
end
section
variable {P : Program} {T : Tys}
theorem qdO{w:World}(t tx ty e:TypeId){i:TypeInfo}(ht:P.underlying t=some (.slice e))(hi:P.info? e=some i){b off sLen sCap:Nat}{x:Value}{n:Nat}{news:List Value}(hs:Src P i.size tx x n news w)
  (hroom:sLen+n<=sCap) {c:Array Value} {E:TypeId} (hb:w.heap[b]?=some (.cells c E (0,0))) (hc:off+sCap*i.size<=c.size) :
  (Builtin.append_ #[t,tx] ty #[.slice (some ⟨b,off,none⟩) sLen sCap,x]).run P w =
   .ok (.slice (some ⟨b,off,none⟩) (sLen+n) sCap) (w.setRow b (c.toList.take (off+sLen*i.size)++news++c.toList.drop (off+sLen*i.size+news.length)).toArray):=by
 have hle:(sLen+n)*i.size<=sCap*i.size:=Nat.mul_le_mul_right _ hroom;rw[Nat.add_mul]at hle;have hst:=run_storeCells_at (P:=P) b (off+sLen*i.size) E news 0 c w hb (by rw[hs.newsLen];omega) hs.one;simp only[Nat.add_zero]at hst;rcases hs.kind with⟨e',hk⟩|hk<;>simp[Builtin.append_,run_underlying ht,run_underlying hk,sizeOf,typeInfo,hi,hs.len,hroom,hs.cells,jM,hst]
theorem qbQ{w:World}(t tx ty e:TypeId){i:TypeInfo}(ht:P.underlying t=some (.slice e))(hi:P.info? e=some i){base:Option Addr}{sLen sCap:Nat}{x:Value}(hs:Src P i.size tx x 0 [] w)
  (hroom:sLen<=sCap) :
  (Builtin.append_ #[t,tx] ty #[.slice base sLen sCap,x]).run P w = .ok (.slice base sLen sCap) w:=by
 cases base<;>rcases hs.kind with⟨e',hk⟩|hk<;>simp[Builtin.append_,run_underlying ht,run_underlying hk,sizeOf,typeInfo,hi,hs.len,hroom,hs.cells,storeCells]
theorem qrc{w:World}{size:Nat}{u el:TypeId}(hu:P.underlying u=some (.slice el)){ay:Option Addr}{n cap:Nat}{news:List Value}(hlen:news.length=n*size)
  (hc:n=0 \/ ∃ b off,ay=some ⟨b,off,none⟩ /\ ∀ (j:Nat) v,news[j]?=some v->w.cell? ⟨b,off+j,none⟩=some v) (h1:∀ v∈news,v.oneCell'=true) :
  Src P size u (.slice ay n cap) n news w:=by
 rcases hc with rfl|⟨b,off,rfl,hj⟩
 ·have hn:news = []:=List.length_eq_zero_iff.1 (by simpa using hlen)
  subst hn
  cases ay with
  | none=>exact Src.ofNil w hu cap
  | some ad=>exact Src.ofSlice w hu ad 0 cap [] (by simp) (by simp) (fun _ h=>by cases h)
 ·exact Src.ofSlice w hu _ n cap news hlen (fun j v hv=>by rw[jM];exact hj j v hv) h1
variable {e : Env} {h : Heap} {dst : Option Nat} {K : List Wr -> Prop} {ty : TypeId} {pos : String} {after : Array Edge} {guard : Option (Nat × Bool)}
theorem qhy{σ:Type}{cx:Cx σ}{r:Option Nat}{m:List Nat}{L:Loc}{F:Nat->Nat}{st:St σ}{a:Act}{w:World}(hg:Good cx r m L F st a w){d:Nat}(hd:d<a.tmps.size)
  {t tx el:TypeId} {ie:TypeInfo} {z:Value} (hu:P.underlying t=some (.slice el)) (hie:P.info? el=some ie) (hz:ie.zero=some z) (hzs:z.cells.size=ie.size) (hsz:0<ie.size) (hby:0<ie.bytes)
  {base:Option Addr} {len cap n:Nat} {olds news:List Value} {x:Value} (hold:∀ w':World,(∀ y,w'.cell? y=w.cell? y)->(Builtin.firstCells ie.size len (.slice base len cap)).run P w' = .ok olds.toArray w')
  (holdl:olds.length=len*ie.size) (hs:Src P ie.size tx x n news w) (hgr:cap<len+n) (hbig:(len+n)*ie.bytes<=140737488355328)
  {es:Els} (hesl:es.toV.length=len+n) (hlens:zL ie.size es.toV) (hr:RepVL cx.yv L F w es.toV.flatten (olds++news)) (hf:¬ zc es.toV.flatten d) :
  ∃ v w' L' F',(Builtin.append_ #[t,tx] ty #[.slice base len cap,x]).run P w = .ok v w'/\Good cx r m L' F' (qx st [.new d (.arr ie.size es),.set d (.sl d ie.size 0 (len+n))]) (a.put (some d) v) w'/\Tr F w F' w':=by
 have hnl:=hs.newsLen;have h63:((len+n:Nat):Int)<=9223372036854775807:=by
  have:len+n<=(len+n)*ie.bytes:=Nat.le_mul_of_pos_right _ hby;omega
 have hrun:=run_append_grow_src (P:=P) w t tx ty el ie z hu hie hz base len cap olds (hold w.drew fun _=>rfl) x n news hs hgr h63 (growslice_fits hgr hbig);generalize hgc:grownCap w (len+n) cap el=nc at hrun;have hnc:len+n<=nc:=by rw[<- hgc];exact grownCap_ge _ _ _ _
 generalize hcells:(olds++news).toArray++Builtin.zeroCells z.cells (nc-(len+n))=c' at hrun;have hmul:(len+n)*ie.size=len*ie.size+n*ie.size:=Nat.add_mul _ _ _;have hctake:c'.toList.take ((len+n)*ie.size)=olds++news:=by
  rw[<- hcells];have:(olds++news).length=(len+n)*ie.size:=by simp[holdl,hnl,hmul]
  rw[<- this];simp only[Array.toList_append];exact List.take_left' rfl
 have hcsz:c'.size=nc*ie.size:=by
  rw[<- hcells];have h1:nc=(len+n)+(nc-(len+n)):=by omega
  have h2:nc*ie.size=(len+n)*ie.size+(nc-(len+n))*ie.size:=by
   conv=>lhs;rw[h1]
   rw[Nat.add_mul]
  rw[h2];simp[Builtin.zeroCells,holdl,hnl,hzs,hmul]
 have hgd:Good cx r m L F st a w.drew:=hg.same rfl rfl rfl rfl;have tr0:Tr F w F w.drew:=Tr.drew _;have tr1:Tr F w.drew F (w.drew.alloc (.cells c' el)):=Tr.alloc hgd.heap.fresh _;have hle:(len+n)*ie.size<=nc*ie.size:=Nat.mul_le_mul_right _ hnc;have hgn:=hgd.new d c'.size (.arr ie.size es) (.cells c' el) (hgd.unpinned hd) ⟨hsz,hlens,.inr ⟨c',el,(by show(w.drew.alloc _).heap[if d=d then w.drew.heap.size else L.ρ d]?=_;rw[if_pos rfl];exact heap_alloc_new w.drew _),(by simp),(by rw[hesl,hcsz];exact hle),(by
  rw[hesl,hctake];exact RepVL.newLoc (L:=L) (Tr.trans tr0 tr1) (fun i hi=>by simp[hi]) hf hr)⟩⟩
 refine⟨_,_,_,F,hrun,hgn.set (v:=.sl d ie.size 0 (len+n)) hd ⟨_,_,rfl,hnc,hsz,.inr ⟨(by simp),(by simp[hcsz])⟩⟩,Tr.trans tr0 tr1⟩
theorem ja(s:ByteArray):(qW s).length=s.size:=byteCells_length s
theorem qdP(a b:ByteArray):qW (a++b)=qW a++qW b:=by
 simp[qW]
theorem qwx(hT:qU P T){t el:TypeId}{ei:TyI}(h:qxI T t=some (el,ei)):P.underlying t=some (.slice el)/\T.get el=some ei/\qaG T t=some ei:=by
 unfold qxI at h;split at h;case h_2=>cases h
 rename_i ti ht;split at h;case h_2=>cases h
 rename_i e he;split at h;case h_2=>cases h
 rename_i ei' hei;cases h;obtain⟨de,hde,hk1⟩:=jN hT ht;rw[he]at hk1;have hs:qaG T t=some ei:=by simp[qaG,ht,he,hei]
 refine⟨?_,hei,hs⟩;have:=jI hk1.symm;rw[hde,this]
theorem qvr(hT:qU P T){t:TypeId}(h:qve T t=true):P.underlying t=some .string:=by
 unfold qve at h;split at h;case h_2=>cases h
 rename_i ti ht;split at h;case h_2=>cases h
 rename_i he;obtain⟨de,hde,hk1⟩:=jN hT ht;rw[he]at hk1;have:=qbE hk1.symm;subst this;exact hde
theorem qoo(hT:qU P T){u:TypeId}{v:V}{s:ByteArray}(hn:qqM T h u v=some s){σ:Type}{cx:Cx σ}{r:Option Nat}{m:List Nat}{L:Loc}{F:Nat->Nat}{st:St σ}{a:Act}{w:World}
  (hh:qaF h st.heap) (hg:Good cx r m L F st a w) {x:Value} (hx:RepV cx.yv L F w v x):Src P 1 u x s.size (qW s) w:=by
 have hslice:∀ {s:ByteArray},(match qaG T u with
  | some _=>match qhp h v with
   | some (.dd [[.int .u8 c]])=>match decide (0<=c),decide (c<256) with
    | true,true=>some (⟨#[UInt8.ofNat c.toNat]⟩:ByteArray)
    | _,_=>none
   | _=>none
  | none=>none)=some s->Src P 1 u x s.size (qW s) w:=by
  intro s hn;split at hn;case h_2=>cases hn
  rename_i ui hui;obtain⟨el',hun',_⟩:=qcD hT hui;split at hn;case h_2=>cases hn
  rename_i c hfs;split at hn;case h_2=>cases hn
  rename_i h0 h1;cases hn;have h0:=of_decide_eq_true h0;have h1:=of_decide_eq_true h1;obtain⟨ay,cap,news,hye,hcap,hnr,hnl,hcell⟩:=qhc hh hg.heap hfs hx (sz:=1) (fun e he=>by
   simp only[Els.toV,ze,inj,List.mem_singleton]at he;subst he;rfl) Nat.one_pos
  obtain⟨y,l',rfl,hy,hl'⟩:=hnr;have hy:y = .int .u8 c:=hy;have hl':l' = []:=hl';subst hy hl';have he:qW (⟨#[UInt8.ofNat c.toNat]⟩:ByteArray) = [.int .u8 c]:=by
   have:((UInt8.ofNat c.toNat).toNat:Int)=c:=by
    rw[UInt8.toNat_ofNat_of_lt' (by show c.toNat<256;omega)];omega
   show [Value.int .u8 ((UInt8.ofNat c.toNat).toNat:Int)]=_;rw[this]
  rw[he,hye];exact qrc hun' (by simpa using hnl) (hcell.imp (fun h=>by cases h) fun h=>h) (fun v hv=>by
   rw[List.mem_singleton]at hv;subst hv;rfl)
 unfold qqM at hn;split at hn
 ·rename_i s'
  split at hn;case h_2=>cases hn
  rename_i hs;cases hn;have hx:x = .string s:=hx;subst hx;exact Src.ofString w (qvr hT hs) s
 ·exact hslice hn
theorem qvs(hT:qU P T){args:Array Operand}{tys:Array TypeId}{x y:Operand}{t u:TypeId}(hargs:args.toList = [x,y])(htys:tys.toList = [t,u])(hk:qxK T e h dst t u x y K) :
  ∃ ws,K ws/\Out P e h ⟨dst,.call ⟨.builtin .append,args,tys⟩,ty,pos,after,guard⟩ ws:=by
 unfold qxK at hk;split at hk;case h_2=>exact hk.elim
 rename_i v yv el ei d hx hy hei;split at hk;case h_2=>exact hk.elim
 rename_i s hs;have hk':=zw hk;clear hk;obtain⟨hok,hk⟩:=hk';simp only[Bool.and_eq_true]at hok;obtain⟨hok,hs1,hb1⟩:=hok;have hs1:=qah hs1;have hb1:=qah hb1;obtain⟨hun,hel,_⟩:=qwx hT hei;obtain⟨ie,z,hie,hz,hsz,hby,hsize,hbytes,hzs⟩:=qhb hT hel hok;have hi1:ie.size=1:=by omega
 have hi2:ie.bytes=1:=by omega
 have hrun:∀ (a:Act) (w:World) (b:Option Addr) (l c:Nat) (v:Value) (w':World),a.eval x = .slice b l c->(Builtin.append_ #[t,u] ty #[.slice b l c,a.eval y]).run P w = .ok v w' ->
   (execOp a.eval ⟨some d,.call ⟨.builtin .append,args,tys⟩,ty,pos,after,guard⟩).run P w = .ok (.value v) w':=fun a w b l c v w' hev hv=>by
  have h1:args.map a.eval = #[.slice b l c,a.eval y]:=by
   apply Array.ext';simp[hargs,hev]
  have h2:tys = #[t,u]:=by
   apply Array.ext';simp[htys]
  simp[execOp,resolve,invoke,builtin,h1,h2,hv]
 have grow:∀ {σ:Type} {cx:Cx σ} {r:Option Nat} {m:List Nat} {L:Loc} {F:Nat->Nat} {st:St σ} {a:Act} {w:World},Good cx r m L F st a w->d<a.tmps.size -> ∀ (base:Option Addr) (cap:Nat) (b:ByteArray),
   a.eval x = .slice base b.size cap->(Builtin.firstCells ie.size b.size (.slice base b.size cap)).run P w.drew = .ok (qW b).toArray w.drew->Src P 1 u (a.eval y) s.size (qW s) w->cap<b.size+s.size->b.size+s.size<=140737488355328 ->
   ∃ v w' L' F',(execOp a.eval ⟨some d,.call ⟨.builtin .append,args,tys⟩,ty,pos,after,guard⟩).run P w = .ok (.value v) w'/\Good cx r m L' F' (qx st [.new d (.buf el (b++s)),.set d (.sl d 1 0 (b++s).size)]) (a.put (some d) v) w'/\Tr F w F' w':=by
  intro σ cx r m L F st a w hg hd base cap b hev hold hsrc hgr hbig;have hr:=run_append_grow_src (P:=P) w t u ty el ie z hun hie hz base b.size cap (qW b) hold (a.eval y) s.size (qW s) (by rw[hi1];exact hsrc) hgr (by omega) (growslice_fits hgr (by rw[hi2];omega));generalize hgc:grownCap w (b.size+s.size) cap el=nc at hr;have hnc:b.size+s.size<=nc:=by rw[<- hgc];exact grownCap_ge _ _ _ _
  generalize hcells:(qW b++qW s).toArray++Builtin.zeroCells z.cells (nc-(b.size+s.size))=c' at hr;have hbs:(b++s).size=b.size+s.size:=by simp
  have hlen:(qW b++qW s).length=b.size+s.size:=by rw[List.length_append,ja,ja]
  have hctake:c'.toList.take (b++s).size=qW (b++s):=by
   rw[<- hcells,hbs,qdP,<- hlen];simp only[Array.toList_append];exact List.take_left' rfl
  have hcsz:c'.size=nc:=by
   rw[<- hcells];have:z.cells.size=1:=by omega
   simp only[Array.size_append,List.size_toArray,hlen,size_zeroCells,this];omega
  have hgd:Good cx r m L F st a w.drew:=hg.same rfl rfl rfl rfl;have tr0:Tr F w F w.drew:=Tr.drew _;have tr1:Tr F w.drew F (w.drew.alloc (.cells c' el)):=Tr.alloc hgd.heap.fresh _;have hgn:=hgd.new d c'.size (.buf el (b++s)) (.cells c' el) (hgd.unpinned hd) ⟨c',(by show(w.drew.alloc _).heap[if d=d then w.drew.heap.size else L.ρ d]?=_;rw[if_pos rfl];exact heap_alloc_new w.drew _),(by simp),(by omega),hctake⟩;refine⟨_,_,_,F,hrun a w base _ cap _ _ hev hr,hgn.set (v:=.sl d 1 0 (b++s).size) hd ⟨some ⟨w.drew.heap.size,0,none⟩,nc,(by rw[hbs];rfl),(by omega),Nat.one_pos,.inr ⟨(by simp),(by simp[hcsz])⟩⟩,Tr.trans tr0 tr1⟩
 split at hk
 ·have hk':=zw hk
  clear hk;obtain⟨hc,hk⟩:=hk';simp only[Bool.and_eq_true]at hc;have h0:=of_decide_eq_true hc.1;have hbig:=of_decide_eq_true hc.2;refine⟨_,hk,?_⟩;intro σ cx r m L F st a w he hh hg hd;have hev:a.eval x = .slice none 0 0:=hg.opnd (qo he hx);obtain⟨v,w',L',F',h1,h2,h3⟩:=grow hg (hd d rfl) none 0 ByteArray.empty hev (by
   have:qW ByteArray.empty = []:=rfl;rw[this];exact run_firstCells_none _ _ 0 0 0) (qoo hT hs hh hg (hg.opnd (qo he hy))) (by simp;omega) (by simp;omega)
  have e0:ByteArray.empty++s=s:=by simp
  rw[e0]at h2;exact⟨v,w',_,h1,.inl rfl,L',F',h2,h3⟩
 ·rename_i id n off len
  split at hk;case h_2=>exact hk.elim
  rename_i tb b hb;obtain⟨hc,hk1⟩:=zw hk;clear hk;simp only[Bool.and_eq_true]at hc;obtain⟨hc2,hk⟩:=zw hk1;clear hk1;simp only[Bool.and_eq_true]at hc2;have hn1:=qah hc.1;have hoff:=qah hc.2.1;have htb:=qah hc.2.2;have hlen:=of_decide_eq_true hc2.1;have hpos:=of_decide_eq_true hc2.2.1;have hbig:=of_decide_eq_true hc2.2.2;subst hn1 hoff hlen htb;refine⟨_,hk,?_⟩;intro σ cx r m L F st a w he hh hg hd;obtain⟨base,cap,hev,hlc,_,hbc⟩:=hg.opnd (qo he hx);rcases hbc with⟨hz0,_⟩|⟨rfl,hbc⟩
  ·omega
  rw[Nat.zero_add,Nat.mul_one]at hbc;rw[Nat.zero_mul]at hev;have h0:=hh _ _ hb;obtain⟨c,hc1,hck,hcs,hct⟩:=hg.heap.obj id _ h0;have hsrc:=qoo hT hs hh hg (hg.opnd (qo he hy));have hbs:(b++s).size=b.size+s.size:=by simp
  have hfc:∀ w':World,(∀ x,w'.cell? x=w.cell? x)->(Builtin.firstCells ie.size b.size (.slice (some ⟨L.ρ id,0,none⟩) b.size cap)).run P w' = .ok (qW b).toArray w':=fun w' hw'=>by
   rw[hi1];refine run_firstCells_some w' 1 b.size _ b.size cap _ (by rw[ja];omega) fun j v hv=>?_;have hj:j<b.size:=by have:=(List.getElem?_eq_some_iff.1 hv).1;rwa [ja]at this
   rw[jM,hw',cell_of_row _ _ _ _ _ _ hc1,Nat.zero_add,<- Array.getElem?_toList,<- hv,<- hct,List.getElem?_take_of_lt hj]
  by_cases hroom:b.size+s.size<=cap
  ·have hr:=qdO (P:=P) (ty:=ty) t u tb hun hie (by rw[hi1];exact hsrc) hroom (b:=L.ρ id) (off:=0) hc1 (by rw[hi1];omega)
   simp only[hi1,Nat.mul_one,Nat.zero_add]at hr;have hL:=Array.length_toList (xs:=c);have hsp:=qax (cs:=c.toList) (l:=qW s) (off:=b.size) (by rw[ja];omega);generalize hc':(c.toList.take b.size++qW s++c.toList.drop (b.size+(qW s).length)).toArray=c' at hr;have ce:c'.toList=c.toList.take b.size++qW s++c.toList.drop (b.size+(qW s).length):=by rw[<- hc']
   have hcs':c'.size=c.size:=by rw[<- ce]at hsp;simpa using hsp
   obtain⟨g1,g2⟩:=hg.retake (d:=d) (o:=.buf tb (b++s)) (hg.unpinned (hd d rfl)) h0 trivial (w':=w.setRow (L.ρ id) c') rfl rfl rfl (size_setRow _ _ _) (fun b hb=>setRow_other _ _ _ _ hb)
    (by rw[hc1];intro ds e;cases e) (by rw[hc1];intro lp e;cases e)
    ⟨c',(by show(w.setRow _ c').heap[if d=d then L.ρ id else L.ρ d]?=_;rw[if_pos rfl];exact setRow_heap _ _ _ _ _ _ hc1),(by rw[hcs'];simpa using hck),(by omega),(by
     rw[ce,hct,qdP,hbs];have e1:b.size+s.size=(qW b++qW s).length:=by rw[List.length_append,ja,ja]
     rw[e1,List.take_left'];rfl)⟩
   exact⟨_,_,_,hrun a w _ b.size cap _ _ hev hr,.inl rfl,_,F,g1.set (v:=.sl d 1 0 (b++s).size) (hd d rfl) ⟨_,_,(by rw[hbs]),(by omega),Nat.one_pos,.inr ⟨(by simp),(by simp;exact hbc)⟩⟩,g2⟩
  ·obtain⟨v,w',L',F',h1,h2,h3⟩:=grow (hg.del id) (hd d rfl) _ cap b hev (hfc w.drew fun _=>rfl) hsrc (by omega) hbig
   exact⟨v,w',_,h1,.inl rfl,L',F',h2,h3⟩
 ·exact hk.elim
theorem qpv(hT:qU P T){args:Array Operand}{tys:Array TypeId}(hk:jL T e h dst .append args tys K):∃ ws,K ws/\Out P e h ⟨dst,.call ⟨.builtin .append,args,tys⟩,ty,pos,after,guard⟩ ws:=by
 simp only[jL]at hk;split at hk;case h_2=>exact hk.elim
 rename_i x y t u hargs htys;split at hk
 ·exact qvs hT hargs htys hk
 split at hk;case h_2=>exact hk.elim
 rename_i ui hui;replace hk:=qqL hk;unfold qjU at hk;split at hk;case h_2=>exact hk.elim
 rename_i v uv ei d hx hy hei;split at hk;case h_2=>exact hk.elim
 rename_i fs hfs;obtain⟨hok,hk⟩:=zw hk;obtain⟨el,hun,hel⟩:=qcD hT hei;obtain⟨el',hun',_⟩:=qcD hT hui;obtain⟨ie,z,hie,hz,hsz,hby,hsize,hbytes,hzs⟩:=qhb hT hel hok;have hrun:∀ (a:Act) (w:World) (b:Option Addr) (l c:Nat) (v:Value) (w':World),a.eval x = .slice b l c->(Builtin.append_ #[t,u] ty #[.slice b l c,a.eval y]).run P w = .ok v w' ->
   (execOp a.eval ⟨some d,.call ⟨.builtin .append,args,tys⟩,ty,pos,after,guard⟩).run P w = .ok (.value v) w':=fun a w b l c v w' hev hv=>by
  have h1:args.map a.eval = #[.slice b l c,a.eval y]:=by
   apply Array.ext';simp[hargs,hev]
  have h2:tys = #[t,u]:=by
   apply Array.ext';simp[htys]
  simp[execOp,resolve,invoke,builtin,h1,h2,hv]
 unfold qjT at hk;split at hk
 ·obtain⟨hc,hk⟩:=zw hk
  simp only[Bool.and_eq_true]at hc;obtain⟨hfok,hfree⟩:=hc;obtain⟨hbig,hk⟩:=zw hk;have hbig:=of_decide_eq_true hbig;refine⟨_,hk,?_⟩;intro σ cx r m L F st a w he hh hg hd;have hev:a.eval x = .slice none 0 0:=hg.opnd (qo he hx);have hfo:=qon hfok;obtain⟨ay,cap,news,hye,hcap,hnr,hnl,hcell⟩:=qhc hh hg.heap hfs (hg.opnd (qo he hy)) (fun e he=>(hfo e he).1) hsz;have h1:=hnr.one (qai fun e he=>(hfo e he).2);have hsrc:Src P ie.size u (a.eval y) fs.toV.length news w:=by
   rw[hye,<- hsize];exact qrc hun' hnl (hcell.imp (fun h=>by rw[h];rfl) fun h=>h) h1
  have happ:((Els.dd []).app fs).toV=fs.toV:=by rw[Els.app_toV];rfl
  have hl0:(Els.dd []).len+fs.len=fs.toV.length:=by rw[Els.len_eq,Els.len_eq];simp[Els.toV,ze]
  rw[hl0]at hbig;rw[hl0,hsize];by_cases h0:fs.toV = []
  ·have hn0:fs.toV.length=0:=by rw[h0];rfl
   have hnn:news = []:=List.length_eq_zero_iff.1 (by rw[hnl,hn0];simp);rw[hn0,hnn]at hsrc;have hr:=qbQ (P:=P) t u ty el hun hie (base:=none) (sLen:=0) (sCap:=0) hsrc (Nat.le_refl _);have hgn:=hg.newEmpty d ie.size (hg.unpinned (hd d rfl)) (by rw[<- hsize];exact hsz) ((Els.dd []).app fs) (by rw[happ,h0]);exact⟨_,_,_,hrun a w none 0 0 _ _ hev hr,.inl rfl,_,F,hgn.set (v:=.sl d ie.size 0 fs.toV.length) (hd d rfl) ⟨none,0,(by rw[hn0]),(by rw[hn0];exact Nat.le_refl _),(by rw[<- hsize];exact hsz),.inl ⟨hn0,rfl⟩⟩,Tr.refl F w⟩
  ·have hpos:0<fs.toV.length:=Nat.pos_of_ne_zero fun e=>h0 (List.length_eq_zero_iff.1 e)
   have:=qhy (P:=P) (ty:=ty) (tx:=u) (x:=a.eval y) hg (hd d rfl) hun hie hz hzs (by omega) (by omega) (base:=none) (len:=0) (cap:=0) (n:=fs.toV.length) (olds:=[]) (news:=news) (fun w' _=>run_firstCells_none w' ie.size 0 0 0) (by simp) hsrc (by omega) (by rw[Nat.zero_add,<- hbytes];exact hbig)
    (es:=(Els.dd []).app fs) (by rw[happ];simp) (by rw[happ,<- hsize];exact fun e he=>(hfo e he).1) (by rw[happ];exact hnr) (qfi hfree)
   obtain⟨v,w',L',F',hv,hgn,tr⟩:=this;rw[Nat.zero_add]at hgn;exact⟨v,w',_,hrun a w none 0 0 v w' hev hv,.inl rfl,L',F',hgn,tr⟩
 ·rename_i id n off len _
  split at hk;case h_2=>exact hk.elim
  rename_i mm es0 hes0;obtain⟨hc,hk1⟩:=zw hk;clear hk;simp only[Bool.and_eq_true]at hc;obtain⟨⟨⟨hn1,hm1⟩,hle⟩,hoff⟩:=hc;have hn1:=qah hn1;have hm1:=qah hm1;have hle:=qga hle;have hoff:=qah hoff;rw[Els.len_eq]at hle;obtain⟨hc,hk2⟩:=zw hk1;clear hk1;simp only[Bool.and_eq_true]at hc;obtain⟨hfok,hfree⟩:=hc;obtain⟨hbig,hk⟩:=zw hk2;have hbig:=of_decide_eq_true hbig;refine⟨_,hk,?_⟩;intro σ cx r m L F st a w he hh hg hd;subst hn1 hoff;rw[hm1]at hes0;clear hm1;obtain⟨base,cap,hev,hlc,_,hb⟩:=hg.opnd (qo he hx);have hfo:=qon hfok;have h0:=hh _ _ hes0;obtain⟨_,hlens,hrest⟩:=hg.heap.obj id _ h0;obtain⟨ay,capy,news,hye,hcapy,hnr,hnl,hcell⟩:=qhc hh hg.heap hfs (hg.opnd (qo he hy)) (fun e he=>(hfo e he).1) hsz;have h1:=hnr.one (qai fun e he=>(hfo e he).2);have hsrc:Src P ie.size u (a.eval y) fs.toV.length news w:=by
   rw[hye,<- hsize];exact qrc hun' hnl (hcell.imp (fun h=>by rw[h];rfl) fun h=>h) h1
  have hpl:(es0.part 0 len).toV=es0.toV.take len:=by rw[Els.part_toV];rfl
  have hpll:(es0.part 0 len).toV.length=len:=by rw[hpl];simp;omega
  have happ:((es0.part 0 len).app fs).toV=es0.toV.take len++fs.toV:=by rw[Els.app_toV,hpl]
  have hl0:(es0.part 0 len).len+fs.len=len+fs.toV.length:=by rw[Els.len_eq,Els.len_eq,hpll]
  have happl:((es0.part 0 len).app fs).toV.length=len+fs.toV.length:=by rw[Els.app_toV,List.length_append,hpll]
  have hplens:zL ei.size (es0.toV.take len):=fun e he=>hlens e (List.mem_of_mem_take he);have happlens:zL ei.size ((es0.part 0 len).app fs).toV:=by
   rw[happ];intro e he;rcases List.mem_append.1 he with he|he
   ·exact hplens e he
   ·exact(hfo e he).1
  rw[hl0]at hbig;rw[hl0];have hold:∃ olds,(∀ w':World,(∀ x,w'.cell? x=w.cell? x)->(Builtin.firstCells ie.size len (.slice base len cap)).run P w' = .ok olds.toArray w')/\RepVL cx.yv L F w (es0.toV.take len).flatten olds/\olds.length=len*ie.size:=by
   rw[<- hsize];by_cases hl0:len=0
   ·subst hl0
    refine⟨[],fun w' _=>?_,by simp[RepVL],by simp⟩
    cases base with
    | none=>exact run_firstCells_none w' _ 0 0 cap
    | some ad=>exact run_firstCells_some w' _ 0 ad 0 cap [] (by simp) (by simp)
   ·rcases hb with⟨h0,_⟩|⟨rfl,hb⟩
    ·omega
    rcases hrest with⟨he,_⟩|⟨l,E,hl',hk',hszl,hrr⟩
    ·rw[he]at hle;simp at hle;omega
    have hle':len*ei.size<=es0.toV.length*ei.size:=Nat.mul_le_mul_right _ hle;refine⟨(l.toList.take (es0.toV.length*ei.size)).take (len*ei.size),fun w' hw'=>run_firstCells_some w' _ len _ len cap _ (by simp;omega) fun j v hv=>?_,by rw[qay _ hlens];exact hrr.take _,by simp;omega⟩;rw[jM,hw',cell_of_row _ _ _ _ _ _ hl'];have hj:j<len*ei.size:=by have:=(List.getElem?_eq_some_iff.1 hv).1;simp at this;omega
    rw[List.getElem?_take_of_lt hj,List.getElem?_take_of_lt (by omega)]at hv;simpa using hv
  obtain⟨olds,hold,holdr,holdl⟩:=hold;have hallr:RepVL cx.yv L F w ((es0.part 0 len).app fs).toV.flatten (olds++news):=by
   rw[happ,List.flatten_append];exact holdr.append hnr
  have hdel:=hg.del id;by_cases hroom:len+fs.toV.length<=cap
  ·rcases hb with⟨hb1,hb2⟩|⟨rfl,hb⟩
   ·
    have hn0:fs.toV.length=0:=by omega
    have hnn:news = []:=List.length_eq_zero_iff.1 (by rw[hnl,hn0];simp);rw[hn0,hnn]at hsrc;have hr:=qbQ (P:=P) t u ty el hun hie (base:=base) (sLen:=len) (sCap:=cap) hsrc hlc;have hemp:((es0.part 0 len).app fs).toV = []:=List.length_eq_zero_iff.1 (by rw[happl];omega);have hgn:=hdel.newEmpty d ei.size (hdel.unpinned (hd d rfl)) hsz ((es0.part 0 len).app fs) hemp;exact⟨_,_,_,hrun a w base len cap _ _ hev hr,.inl rfl,_,F,hgn.set (v:=.sl d ei.size 0 (len+fs.toV.length)) (hd d rfl) ⟨base,cap,(by rw[hn0];rfl),(by omega),hsz,.inl ⟨(by omega),hb2⟩⟩,Tr.refl F w⟩
   ·by_cases hcap0:cap=0
    ·
     have hn0:fs.toV.length=0:=by omega
     have hnn:news = []:=List.length_eq_zero_iff.1 (by rw[hnl,hn0];simp);rw[hn0,hnn]at hsrc;have hr:=qbQ (P:=P) t u ty el hun hie (base:=some ⟨L.ρ id,0*ei.size,none⟩) (sLen:=len) (sCap:=cap) hsrc hlc;have hemp:((es0.part 0 len).app fs).toV = []:=List.length_eq_zero_iff.1 (by rw[happl];omega);have hgn:=hdel.newEmpty d ei.size (hdel.unpinned (hd d rfl)) hsz ((es0.part 0 len).app fs) hemp;exact⟨_,_,_,hrun a w _ len cap _ _ hev hr,.inl rfl,_,F,hgn.set (v:=.sl d ei.size 0 (len+fs.toV.length)) (hd d rfl) ⟨_,cap,(by rw[hn0];rfl),(by omega),hsz,.inl ⟨(by omega),hcap0⟩⟩,Tr.refl F w⟩
    ·
     rw[Nat.zero_add]at hb;have hκ:L.κ id≠0:=by
      have:0<cap*ei.size:=Nat.mul_pos (by omega) hsz;omega
     rcases hrest with⟨_,hk0⟩|⟨l,E,hl',hk',hszl,hrr⟩
     ·exact absurd hk0 hκ
     have hr:=qdO (P:=P) (ty:=ty) t u el hun hie hsrc hroom (b:=L.ρ id) (off:=0*ei.size) hl' (by rw[hk',<- hsize];simpa using hb);simp only[Nat.zero_mul,Nat.zero_add]at hr hev;have hroom':(len+fs.toV.length)*ei.size<=cap*ei.size:=Nat.mul_le_mul_right _ hroom;rw[Nat.add_mul]at hroom';have hnl':news.length=fs.toV.length*ei.size:=hnl;have hlie:len*ie.size=len*ei.size:=by rw[hsize]
     have hL:=Array.length_toList (xs:=l);have hsp:=qax (cs:=l.toList) (l:=news) (off:=len*ie.size) (by omega);generalize hc':(l.toList.take (len*ie.size)++news++l.toList.drop (len*ie.size+news.length)).toArray=c' at hr;have ce:c'.toList=l.toList.take (len*ie.size)++news++l.toList.drop (len*ie.size+news.length):=by rw[<- hc']
     have hcs':c'.size=l.size:=by rw[<- ce]at hsp;simpa using hsp
     have tr:Tr F w F (w.setRow (L.ρ id) c'):=
      .of_keep rfl rfl rfl (by simp) (fun _=>Nat.le_refl _) hg.heap.fresh fun b _ hF=>setRow_other _ _ _ _ (by rintro rfl;have:=(hg.heap.own id _ h0 hκ).1;omega)
     have hol:olds=l.toList.take (len*ie.size):=by
      have h2:=hold w (fun _=>rfl);have hle':len*ei.size<=es0.toV.length*ei.size:=Nat.mul_le_mul_right _ hle;have h3:=run_firstCells_some (P:=P) w ie.size len ⟨L.ρ id,0*ei.size,none⟩ len cap (l.toList.take (len*ie.size)) (by rw[List.length_take,Array.length_toList,<- hsize];omega) (fun j v hv=>by
       rw[jM,cell_of_row _ _ _ _ _ _ hl'];have hj:j<len*ie.size:=by have:=(List.getElem?_eq_some_iff.1 hv).1;rw[List.length_take]at this;omega
       rw[List.getElem?_take_of_lt hj]at hv;simpa using hv)
      rw[h3]at h2;simp only[Result.ok.injEq,and_true]at h2;have:=congrArg Array.toList h2;simpa using this.symm
     obtain⟨g1,g2⟩:=hg.retake (d:=d) (o:=.arr ei.size ((es0.part 0 len).app fs)) (hg.unpinned (hd d rfl)) h0 hκ (w':=w.setRow (L.ρ id) c') rfl rfl rfl (size_setRow _ _ _) (fun b hb=>setRow_other _ _ _ _ hb)
      (by rw[hl'];intro ds e;cases e) (by rw[hl'];intro lp e;cases e)
      ⟨hsz,happlens,.inr ⟨c',E,(by show(w.setRow _ c').heap[if d=d then L.ρ id else L.ρ d]?=_;rw[if_pos rfl];exact setRow_heap _ _ _ _ _ _ hl'),(by rw[hcs',hk'];simp),(by rw[happl,hcs',hk',Nat.add_mul];omega),(by
       rw[happl,ce];have e1:(len+fs.toV.length)*ei.size=(l.toList.take (len*ie.size)++news).length:=by
        rw[List.length_append,List.length_take,hnl',Nat.add_mul];omega
       rw[e1,List.take_left',<- hol]
       ·exact RepVL.newLoc (L:=L) tr (fun i hi=>by simp[hi]) (qfi hfree) hallr
       ·rfl)⟩⟩
     exact⟨_,_,_,hrun a w _ len cap _ _ hev hr,.inl rfl,_,F,g1.set (v:=.sl d ei.size 0 (len+fs.toV.length)) (hd d rfl) ⟨_,_,rfl,hroom,hsz,.inr ⟨(by simp),(by simp;exact hb)⟩⟩,g2⟩
  ·have:=qhy (P:=P) (ty:=ty) (tx:=u) (x:=a.eval y) hdel (hd d rfl) hun hie hz hzs (by omega) (by omega) (base:=base) (len:=len) (cap:=cap) (n:=fs.toV.length) (olds:=olds) (news:=news) hold holdl hsrc (by omega) (by rw[<- hbytes];exact hbig)
    (es:=(es0.part 0 len).app fs) happl (by rw[<- hsize];exact happlens) hallr (qfi hfree)
   obtain⟨v,w',L',F',hv,hgn,tr⟩:=this;rw[<- hsize]at hgn;exact⟨v,w',_,hrun a w base len cap v w' hev hv,.inl rfl,L',F',hgn,tr⟩
 ·exact hk.elim
end
theorem qfj:∀ {xs ys:List D} {r:Bool},jp xs ys=some r->xs.length=ys.length
 | [],[],_,_=>rfl
 | [],_::_,_,h=>by simp[jp]at h
 | _::_,[],_,h=>by simp[jp]at h
 | a::xs,b::ys,r,h=>by
  simp only[jp]at h;split at h
  ·rename_i hq;simp[qfj hq]
  ·cases h
theorem qeK:∀ {xs ys:List D} {r:Bool} (n:Nat),jp xs ys=some r -> ∃ p q,jp (xs.take n) (ys.take n)=some p/\jp (xs.drop n) (ys.drop n)=some q/\r=(p&&q)
 | xs,ys,r,0,h=>⟨true,r,by simp[jp],h,by simp⟩
 | [],[],r,n+1,h=>⟨true,r,by simp[jp],h,by simp⟩
 | [],_::_,_,_+1,h=>by simp[jp]at h
 | _::_,[],_,_+1,h=>by simp[jp]at h
 | a::xs,b::ys,r,n+1,h=>by
  simp only[jp]at h;split at h;case h_2=>cases h
  rename_i p q hp hq;cases h;obtain⟨p',q',h1,h2,rfl⟩:=qeK n hq;exact⟨p&&p',q',by simp[jp,hp,h1],by simpa using h2,by rw[Bool.and_assoc]⟩
theorem qpw{a b:D}(h:qli a b=some true):a=b:=by
 unfold qli at h;split at h
 ·split at h
  ·rename_i he
   rw[of_decide_eq_true he,of_decide_eq_true (Option.some.inj h)]
  ·cases h
 ·cases h
theorem qpx{a b:D}(h:qgR a b=some true):a=b:=by
 unfold qgR at h;split at h
 ·split at h
  ·rename_i he
   rw[of_decide_eq_true he,of_decide_eq_true (Option.some.inj h)]
  ·cases h
 ·rename_i a b
  cases a<;>cases b<;>simp_all
 ·split at h
  ·rename_i ht
   rw[Nat.eq_of_beq_eq_true ht,qpw h]
  ·cases h
  ·cases h
 ·cases h
theorem qje:∀ {xs ys:List D},jp xs ys=some true->xs=ys
 | [],[],_=>rfl
 | [],_::_,h=>by simp[jp]at h
 | _::_,[],h=>by simp[jp]at h
 | a::xs,b::ys,h=>by
  simp only[jp]at h;split at h;case h_2=>cases h
  rename_i p q hp hq;simp only[Option.some.injEq,Bool.and_eq_true]at h;obtain⟨rfl,rfl⟩:=h;rw[qje hq]
  congr 1
  exact qpx hp
section
variable {P : Program} {T : Tys} {F : Nat -> Nat} {w : World}
theorem qhz{xs ys:List D}{r:Bool}(hl:xs.length=1)(h:jp xs ys=some r):∃ a b,xs = [a]/\ys = [b]/\qgR a b=some r:=by
 have hl2:=qfj h;obtain⟨a,rfl⟩:=List.length_eq_one_iff.1 hl;obtain⟨b,rfl⟩:=List.length_eq_one_iff.1 (by rw[<- hl2];rfl);refine⟨a,b,rfl,rfl,?_⟩;simp only[jp]at h;split at h
 ·rename_i hp hq
  cases hq;simpa[hp]using h
 ·cases h
theorem qlv{k:IntKind}{a:Int}{b:D}{r:Bool}(h:qli (.int k a) b=some r):∃ c,b = .int k c/\r=decide (a=c):=by
 unfold qli at h;split at h
 ·rename_i k1 a1 k2 b1 e
  cases e;split at h
  ·rename_i he
   have:=of_decide_eq_true he;subst this;exact⟨_,rfl,(Option.some.inj h).symm⟩
  ·cases h
 ·cases h
theorem quK{N:Nat}{t:TypeId}{k0 k:IntKind}(hde:P.underlying t=some (.int k0)){a c:Int}:(Op.equalIn (N+1) t (.int k a) (.int k c)).run P w = .ok (decide (a=c)) w:=
 (run_equalIn_int w N t _ _ _ _ hde).trans (by simp;rfl)
theorem qct{N:Nat}{t:TypeId}{dk:TypeDesc}(hde:P.underlying t=some dk)(hdk:(∃ k,dk = .int k)\/dk = .bool){x:Value}(em:Bool):(Instr.checkKey em (N+1) t x).run P w = .ok () w:=by
 unfold Instr.checkKey;rcases hdk with⟨k,rfl⟩|rfl<;>simp[run_underlying hde]
def qop(P:Program)(T:Tys)(F:Nat->Nat)(w:World)(N d:Nat)(t:TypeId)(n:Nat):Prop:=
 (∃ ti,T.get t=some ti/\ti.size=n) /\ ∀ (xs ys:List D) (r:Bool),xs.length=n->qmN T d t xs=true->jp xs ys=some r -> ∀ x y,qht T F w t xs x->qht T F w t ys y ->
  (Op.equalIn N t x y).run P w = .ok r w /\ ∀ em,(Instr.checkKey em N t x).run P w = .ok () w
theorem qaI{α:Type}(xs:List α){n c m:Nat}(h:n+c<=m) :
  (((xs.drop n).take (m-n)).take c=(xs.drop n).take c)/\(((xs.drop n).take (m-n)).drop c=(xs.drop (n+c)).take (m-(n+c))):=by
 constructor
 ·rw[List.take_take,Nat.min_eq_left (by omega)]
 ·rw[List.drop_take,List.drop_drop]
  congr 1
  omega
theorem qgy (hT : qU P T) {N d : Nat} {f : TypeId -> Option Nat} (hf : ∀ t c, f t = some c -> qop P T F w N d t c) : ∀ (fs : List Field), (∀ f ∈ fs, (f.name == "_") = false) -> ∀ (n m : Nat), qgw f (fs.map fun f => (f.offset, f.type)) n = some m ->
  n<=m /\ ∀ (xs ys:List D) (r:Bool) (lx ly:Array Value),RepDL F w xs lx.toList->RepDL F w ys ly.toList->qpm T (fun t xs=>qmN T d t xs) (fs.map fun f=>(f.offset,f.type)) xs=true->m<=xs.length->m<=ys.length->jp ((xs.drop n).take (m-n)) ((ys.drop n).take (m-n))=some r ->
   (Op.eqFields N lx ly fs).run P w = .ok r w /\
   ∀ em, (forIn (m := Sem) fs PUnit.unit fun f _ => (if f.name ≠ "_" then do
     Instr.checkKey em N f.type (<- part f.type lx f.offset)
     pure (ForInStep.yield PUnit.unit)
    else pure (ForInStep.yield PUnit.unit))).run P w = .ok PUnit.unit w
 | [],_,n,m,h=>by
  simp only[List.map_nil,qgw,Option.some.injEq]at h;subst h;refine⟨Nat.le_refl _,fun xs ys r lx ly _ _ _ _ _ h=>?_⟩;simp[jp]at h;subst h;simp[Op.eqFields]
 | g::fs,hnm,n,m,h=>by
  simp only[List.map_cons,qgw]at h;split at h;case h_2=>cases h
  rename_i c hoff hc;have hoff:=qah hoff;obtain⟨⟨ti,hti,hsz⟩,hok⟩:=hf _ _ hc;obtain⟨hle,hrec⟩:=qgy hT hf fs (fun g hg=>hnm g (List.mem_cons_of_mem _ hg)) _ _ h;refine⟨by omega,fun xs ys r lx ly hlx hly hkx hxm hym hs=>?_⟩;simp only[List.map_cons,qpm,hti]at hkx;split at hkx;case h_2=>cases hkx
  rename_i hk1;obtain⟨p,q,hp,hq,rfl⟩:=qeK (c+1) hs;rw[(qaI xs hle).1,(qaI ys hle).1]at hp;rw[(qaI xs hle).2,(qaI ys hle).2]at hq;have hsz':ti.size=c+1:=hsz;obtain⟨x,hx,hvx⟩:=qck (F:=F) (w:=w) hT hti hlx (off:=g.offset) (by omega) (by omega);obtain⟨y,hy,hvy⟩:=qck (F:=F) (w:=w) hT hti hly (off:=g.offset) (by omega) (by omega);rw[hsz',hoff]at hvx hvy;rw[hsz',hoff]at hk1;obtain⟨h1,h2⟩:=hok _ _ p (by simp;omega) hk1 hp x y hvx hvy;obtain⟨h3,h4⟩:=hrec xs ys q lx ly hlx hly hkx hxm hym hq
  have hnf : g.name ≠ "_" := by
   have:=hnm g (List.mem_cons_self ..);simpa using this
  refine⟨?_,fun em=>?_⟩
  ·simp only[Op.eqFields,hnf,ne_eq,not_false_eq_true,if_true,Sem.run_bind,hx,hy,Result.andThen_ok,h1]
   cases p
   ·simp
   ·simp[h3]
  ·simp only[List.forIn_cons,Sem.run_bind,hnf,ne_eq,not_false_eq_true,if_true,Result.andThen_ok,hx,h2 em,Sem.run_pure]
   exact h4 em
theorem qgz(hT:qU P T){N d:Nat}{e:TypeId}{c:Nat}(he:qop P T F w N d e (c+1)):∀ (n i:Nat) (xs ys:List D) (r:Bool) (lx ly:Array Value),RepDL F w xs lx.toList->RepDL F w ys ly.toList->qpn (fun xs=>qmN T d e xs) (c+1) n (xs.drop (i*(c+1)))=true->xs.length=(i+n)*(c+1)->ys.length=(i+n)*(c+1) ->
  jp (xs.drop (i*(c+1))) (ys.drop (i*(c+1)))=some r ->
   (Op.eqItems N e (c+1) lx ly (List.range' i n)).run P w = .ok r w /\
   ∀ em,(forIn (m:=Sem) (List.range' i n) PUnit.unit fun j _=>(do
    Instr.checkKey em N e (<- part e lx (j*(<- sizeOf e)))
    pure (ForInStep.yield PUnit.unit))).run P w = .ok PUnit.unit w
 | 0,i,xs,ys,r,lx,ly,hlx,hly,_,hxl,hyl,hs=>by
  have e1:xs.drop (i*(c+1)) = []:=List.drop_eq_nil_of_le (by rw[hxl];simp);have e2:ys.drop (i*(c+1)) = []:=List.drop_eq_nil_of_le (by rw[hyl];simp);rw[e1,e2]at hs;simp only[jp,Option.some.injEq]at hs;subst hs;simp[Op.eqItems]
 | n+1,i,xs,ys,r,lx,ly,hlx,hly,hkx,hxl,hyl,hs=>by
  simp only[qpn]at hkx;split at hkx;case h_2=>cases hkx
  rename_i hk1;obtain⟨⟨ti,hti,hsz⟩,hok⟩:=he;have e1:(i+1)*(c+1)=i*(c+1)+(c+1):=Nat.succ_mul _ _;have e2:(i+(n+1))*(c+1)=i*(c+1)+n*(c+1)+(c+1):=by rw[Nat.add_mul,Nat.succ_mul];omega
  have e3:(i+1+n)=i+(n+1):=by omega
  obtain⟨p,q,hp,hq,rfl⟩:=qeK (c+1) hs;obtain⟨x,hx,hvx⟩:=qck (F:=F) (w:=w) hT hti hlx (off:=i*(c+1)) (by omega) (by omega);obtain⟨y,hy,hvy⟩:=qck (F:=F) (w:=w) hT hti hly (off:=i*(c+1)) (by omega) (by omega);rw[hsz]at hvx hvy;obtain⟨h1,h2⟩:=hok _ _ p (by simp;omega) hk1 hp x y hvx hvy;rw[List.drop_drop,List.drop_drop,<- e1]at hq;rw[List.drop_drop,<- e1]at hkx;obtain⟨h3,h4⟩:=qgz hT ⟨⟨ti,hti,hsz⟩,hok⟩ n (i+1) xs ys q lx ly hlx hly hkx (by rw[e3];exact hxl) (by rw[e3];exact hyl) hq;have hsize:(sizeOf e).run P w = .ok (c+1) w:=by rw[<- hsz];exact jC hT hti
  refine⟨?_,fun em=>?_⟩
  ·simp only[List.range'_succ,Op.eqItems,Sem.run_bind,hx,hy,Result.andThen_ok,h1]
   cases p
   ·simp
   ·simp[h3]
  ·simp only[List.range'_succ,List.forIn_cons,Sem.run_bind,hsize,Result.andThen_ok,hx,h2 em,Sem.run_pure]
   exact h4 em
theorem qgb(hT:qU P T):∀ (d:Nat) (t:TypeId) (n:Nat),flat T d t=some n -> ∀ N,d<=N->qop P T F w N d t n
 | 0,_,_,h,_,_=>by simp[flat]at h
 | d+1,t,n,h,0,hN=>by omega
 | d+1,t,n,h,N+1,hN=>by
  simp only[flat]at h;split at h
  ·cases h
  rename_i ti hti;obtain⟨i,de,hi,hde,_,_,hkd,hag,hhe,_⟩:=hT t ti hti;split at h
  ·rename_i k hk
   have e:=qee (hkd▸hk);subst e;split at h;case h_2=>cases h
   rename_i hs1;cases h;refine⟨⟨ti,hti,qah hs1⟩,fun xs ys r hl hky hs x y hx hy=>?_⟩;obtain⟨a,b,rfl,rfl,hab⟩:=qhz hl hs;have hx':=hx ti hti;have hy':=hy ti hti;rw[hag]at hx' hy';have ex:=hx' _ rfl;have ey:=hy' _ rfl;simp only[qmN,hti,hk]at hky;split at hky;case h_2=>cases hky
   rename_i k1 a1 e1;cases e1;obtain⟨c,rfl,rfl⟩:=qlv (k:=k1) (a:=a1) (b:=b) (r:=r) (by revert hab;cases b<;>simp[qgR,qli]);cases ex;cases ey;exact⟨quK hde,fun em=>qct hde (.inl ⟨_,rfl⟩) em⟩
  ·rename_i hk
   have e:=qff (hkd▸hk);subst e;split at h;case h_2=>cases h
   rename_i hs1;cases h;refine⟨⟨ti,hti,qah hs1⟩,fun xs ys r hl hky hs x y hx hy=>?_⟩;obtain⟨a,b,rfl,rfl,hab⟩:=qhz hl hs;have hx':=hx ti hti;have hy':=hy ti hti;rw[hag]at hx' hy';have ex:=hx' _ rfl;have ey:=hy' _ rfl;simp only[qmN,hti,hk]at hky;split at hky;case h_2=>cases hky
   rename_i a1 e1;cases e1;cases b<;>simp only[qgR]at hab<;>try (cases hab;done)
   cases ex;cases ey
   refine⟨?_,fun em=>qct hde (.inr rfl) em⟩;rw[Op.equalIn];simp only[Sem.run_bind,run_underlying hde,Result.andThen_ok,Sem.run_pure];rw[Option.some.inj hab]
  ·rename_i hk
   obtain⟨ms,e⟩:=qiW (hkd▸hk);subst e;split at h;case h_2=>cases h
   rename_i d' hs1;cases h;refine⟨⟨ti,hti,qah hs1⟩,fun xs ys r hl hky hs x y hx hy=>?_⟩;obtain⟨a,b,rfl,rfl,hab⟩:=qhz hl hs;have hx':=hx ti hti;have hy':=hy ti hti;rw[hag]at hx' hy';have ex:=hx' _ rfl;have ey:=hy' _ rfl;simp only[qmN,hti,hk]at hky;split at hky;case h_2=>cases hky
   rename_i u k a1 e1;cases e1;split at hky;case h_2=>cases hky
   rename_i ui hui;split at hky;case h_2=>cases hky
   rename_i k' hk1 hh1;have:=of_decide_eq_true hky;subst this;obtain⟨iu,du,hiu,hdu,_,_,hkdu,_,hheu,_⟩:=hT u ui hui;have eu:=qee (hkdu.symm.trans hk1);subst eu;have hcmp:=(hheu hh1).2 k hk1;obtain⟨N',rfl⟩:∃ N',N=N'+1:=⟨N-1,by omega⟩;obtain⟨v,rfl,hv⟩:=ex;have hv:v = .int k a1:=hv;subst hv;refine⟨?_,fun em=>?_⟩
   ·cases b<;>simp only[qgR]at hab<;>try (cases hab;done)
    rename_i u' b1;obtain⟨v',rfl,hv'⟩:=ey;split at hab
    ·rename_i hu
     have:=Nat.eq_of_beq_eq_true hu;subst this;obtain⟨c,rfl,rfl⟩:=qlv hab;have hv':v' = .int k c:=hv';subst hv';rw[Op.equalIn];simp only[Sem.run_bind,run_underlying hde,Result.andThen_ok];simp[typeInfo,hiu,hcmp,Sem.run_bind,quK hdu]
    ·rename_i hu hn
     cases hab;have hne:u≠u':=by rintro rfl;simp at hu
     rw[Op.equalIn];simp only[Sem.run_bind,run_underlying hde,Result.andThen_ok];simp[hne]
    ·cases hab
   ·rw[Instr.checkKey]
    simp only[Sem.run_bind,run_underlying hde,Result.andThen_ok];simp[typeInfo,hiu,hcmp,qct hdu (.inl ⟨_,rfl⟩)]
  ·rename_i fs hk
   obtain⟨fa,rfl,rfl,hnm⟩:=qaX (hkd▸hk);split at h;case h_2=>cases h
   rename_i m hheld hm;split at h;case h_2=>cases h
   rename_i hs1;cases h;have hheld':P.stoodInHeld t=false:=(hhe hheld).1;refine⟨⟨ti,hti,qah hs1⟩,fun xs ys r hl hky hs x y hx hy=>?_⟩;simp only[qmN,hti,hk]at hky;have hl2:=qfj hs;have hx':=hx ti hti;have hy':=hy ti hti;rw[hag]at hx' hy';simp only[qjZ,if_true]at hx' hy';obtain⟨lx,rfl,hlx⟩:=hx';obtain⟨ly,rfl,hly⟩:=hy';obtain⟨_,hF⟩:=qgy (P:=P) (F:=F) (w:=w) hT (N:=N) (fun t c h=>qgb hT d t c h N (by omega)) fa.toList hnm 0 _ hm;obtain⟨h1,h2⟩:=hF xs ys r lx ly hlx hly hky (by omega) (by omega) (by
    simp only[List.drop_zero,Nat.sub_zero];rw[List.take_of_length_le (by omega),List.take_of_length_le (by omega)];exact hs)
   have hfo:P.fieldsOf t=fa:=by simp[Program.fieldsOf,hde]
   refine⟨by rw[run_equalIn_struct w N t lx ly (by rw[hfo];exact hde) hheld',hfo];exact h1,fun em=>?_⟩;rw[Instr.checkKey];simp only[Sem.run_bind,run_underlying hde,Result.andThen_ok];rw[<- Array.forIn_toList];rw[h2 em];rfl
  ·rename_i m e hk
   have e':=qag (hkd▸hk);subst e';split at h;case h_2=>cases h
   rename_i c hc;split at h;case h_2=>cases h
   rename_i hs1;cases h;refine⟨⟨ti,hti,qah hs1⟩,fun xs ys r hl hky hs x y hx hy=>?_⟩;simp only[qmN,hti,hk]at hky;have hl2:=qfj hs;have hx':=hx ti hti;have hy':=hy ti hti;rw[hag]at hx' hy';simp only[qjZ,if_true]at hx' hy';obtain⟨lx,rfl,hlx⟩:=hx';obtain⟨ly,rfl,hly⟩:=hy';have he:=qgb hT d e (c+1) hc N (by omega);obtain⟨ei0,hei0⟩:∃ ei,T.get e=some ei:=by obtain⟨⟨ei,hei,_⟩,_⟩:=he;exact⟨ei,hei⟩
   obtain⟨h1,h2⟩:=qgz hT he m 0 xs ys r lx ly hlx hly (by
    obtain⟨⟨ei,hei,hesz⟩,_⟩:=he;simp only[hei,hesz]at hky;simpa using hky) (by rw[Nat.zero_add];exact hl) (by rw[Nat.zero_add,<- hl2];exact hl) (by simpa using hs)
   obtain⟨⟨ei,hei,hesz⟩,_⟩:=he;obtain⟨ie,_,hie,_,hsize,_⟩:=hT e ei hei;have hce:P.cellsOf e=c+1:=by simp[Program.cellsOf,hie,<- hsize,hesz]
   refine⟨by rw[run_equalIn_array w N lx ly hde hie,hce,List.range_eq_range'];exact h1,fun em=>?_⟩;rw[Instr.checkKey];simp only[Sem.run_bind,run_underlying hde,Result.andThen_ok];simp only[Std.Legacy.Range.forIn_eq_forIn_range',Std.Legacy.Range.size,Nat.sub_zero,Nat.add_one_sub_one,Nat.div_one];rw[h2 em];rfl
  ·cases h
end
end Go.PX
