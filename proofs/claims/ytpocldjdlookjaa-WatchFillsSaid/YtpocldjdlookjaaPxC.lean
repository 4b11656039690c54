import Derived.Test.YtpocldjdlookjaaPxB
import Derived.Great.BuildSlice
set_option linter.all false
namespace Go.PX
open Go.RowKit
theorem eF(b off n:Nat):(⟨b,off,none⟩:Addr).add n=⟨b,off+n,none⟩:=by
 unfold Addr.add;split
 ·rename_i h;subst h;rfl
 ·rfl
theorem cf.get{F:Nat->Nat}{w:World}:∀ {cs:List D} {b off:Nat} (i:Nat) {c:D},cf F w b off cs->cs[i]?=some c->off+i<F b /\ ∃ x,w.cell? ⟨b,off+i,none⟩=some x/\bC F w c x
 | [],_,_,i,c,_,hi=>by simp at hi
 | d::r,b,off,0,c,h,hi=>by
  simp at hi;subst hi;exact⟨h.1,h.2.1⟩
 | d::r,b,off,i+1,c,h,hi=>by
  have:=cf.get i h.2.2 (by simpa using hi);simpa[Nat.add_assoc,Nat.add_comm 1 i]using this
theorem cf.jh{F:Nat->Nat}{w:World}:∀ {cs:List D} {b off:Nat},(∀ (i:Nat) (c:D),cs[i]?=some c->off+i<F b /\ ∃ x,w.cell? ⟨b,off+i,none⟩=some x/\bC F w c x)->cf F w b off cs
 | [],_,_,_=>trivial
 | c::r,b,off,h=>⟨(h 0 c (by simp)).1,(h 0 c (by simp)).2,cf.jh fun i d hd=>by
   have:=h (i+1) d (by simpa using hd);simpa[Nat.add_assoc,Nat.add_comm 1 i]using this⟩
theorem cf.drop{F:Nat->Nat}{w:World}{cs:List D}{b off:Nat}(n:Nat)(h:cf F w b off cs):cf F w b (off+n) (cs.drop n):=
 .jh fun i c hc=>by
  rw[List.getElem?_drop]at hc;simpa[Nat.add_assoc]using cf.get _ h hc
theorem cF.get{F:Nat->Nat}{w:World}:∀ {es:List (List D)} {b off sz:Nat} (i:Nat) {e:List D},cF F w b off sz es->es[i]?=some e->e.length=sz/\cf F w b (off+i*sz) e
 | [],_,_,_,i,c,_,hi=>by simp at hi
 | d::r,b,off,sz,0,c,h,hi=>by
  simp at hi;subst hi;exact⟨h.1,by simpa using h.2.1⟩
 | d::r,b,off,sz,i+1,c,h,hi=>by
  have:=cF.get i h.2.2 (by simpa using hi);refine⟨this.1,?_⟩;have e:off+(i+1)*sz=off+sz+i*sz:=by rw[Nat.succ_mul];omega
  rw[e];exact this.2
theorem cF.jh{F:Nat->Nat}{w:World}:∀ {es:List (List D)} {b off sz:Nat},(∀ (i:Nat) (e:List D),es[i]?=some e->e.length=sz/\cf F w b (off+i*sz) e)->cF F w b off sz es
 | [],_,_,_,_=>trivial
 | e::r,b,off,sz,h=>⟨(h 0 e (by simp)).1,by simpa using (h 0 e (by simp)).2,cF.jh fun i d hd=>by
   have:=h (i+1) d (by simpa using hd);have e:off+(i+1)*sz=off+sz+i*sz:=by rw[Nat.succ_mul];omega
   rw[e]at this;exact this⟩
theorem cF.take{F:Nat->Nat}{w:World}{es:List (List D)}{b off sz:Nat}(n:Nat)(h:cF F w b off sz es):cF F w b off sz (es.take n):=
 .jh fun i e he=>by
  rw[List.getElem?_take]at he;split at he
  ·exact cF.get i h he
  ·simp at he
theorem cF.drop{F:Nat->Nat}{w:World}{es:List (List D)}{b off sz:Nat}(n:Nat)(h:cF F w b off sz es):cF F w b (off+n*sz) sz (es.drop n):=
 .jh fun i e he=>by
  rw[List.getElem?_drop]at he;have:=cF.get _ h he;rw[Nat.add_mul,<- Nat.add_assoc]at this;exact this
theorem iy:∀ {l:List V} {ds:List D},sh l=some ds->l=inj ds
 | [],ds,h=>by simp[sh]at h;subst h;rfl
 | v::r,ds,h=>by
  cases v<;>simp only[sh]at h<;>first|(cases h;done)|skip
  rename_i d
  cases hr:sh r with
  | none=>simp[hr]at h
  | some l=>simp[hr]at h;subst h;simp[inj,iy hr]
section
variable {yv : Option Nat} {L : Loc} {F : Nat -> Nat} {w : World}
theorem a6.qv{cs:List V}{l:Array Value}(h:aq yv L F w cs l.toList):a6 yv L F w (qv cs) (.agg l):=by
 unfold PX.qv;split
 ·rename_i ds hd
  rw[iy hd]at h;exact⟨l,rfl,aq.inj.1 h⟩
 ·exact⟨l,rfl,h⟩
theorem Cells.gU(c:Cells):c.len=c.aU.length:=by
 cases c
 ·exact(dI _).symm
 ·rfl
theorem a6.sub{c:Cells}{off n:Nat}{l:Array Value}(h:aq yv L F w ((c.aU.drop off).take n) l.toList):a6 yv L F w (c.sub off n) (.agg l):=by
 cases c with
 | dd d=>
  refine⟨l,rfl,?_⟩;simp only[Cells.aU,<- uh,<- uj]at h;exact aq.inj.1 h
 | vv d=>exact a6.qv h
theorem Kh{c:Cells}{n:Nat}{K:V->Prop}(h:c.JG n K):∃ v,c.aU[n]?=some v/\K v:=by
 cases c with
 | dd l=>
  obtain⟨v,hv,hk⟩:=lW h;exact⟨.d v,by simp[Cells.aU,sX,hv],hk⟩
 | vv l=>exact lW h
theorem tM{ti:oQ}{c:Cells}{off:Nat}{K:V->Prop}(h:c.cm ti off K) :
  ∃ v,K v/\((ti.isAgg=true/\off+ti.size<=c.aU.length/\v=c.sub off ti.size)\/(ti.isAgg=false/\c.aU[off]?=some v)):=by
 unfold Cells.cm at h;split at h
 ·rename_i hA
  obtain⟨hb,hk⟩:=bK h;rw[Cells.gU]at hb;exact⟨_,hk,.inl ⟨hA,lg hb,rfl⟩⟩
 ·rename_i hA
  obtain⟨v,hv,hk⟩:=Kh h;exact⟨v,hk,.inr ⟨hA,hv⟩⟩
theorem tw{b off:Nat}:∀ {cs:List V} (n:Nat),n<=cs.length->(∀ (i:Nat) c,cs[i]?=some c -> ∃ v,w.cell? ⟨b,off+i,none⟩=some v/\a6 yv L F w c v) ->
  ∃ l:List Value,aq yv L F w (cs.take n) l /\ ∀ (j:Nat) v,l[j]?=some v->w.cell? ⟨b,off+j,none⟩=some v
 | cs,0,_,_=>⟨[],by simp[aq],by simp⟩
 | cs,n+1,hn,h=>by
  obtain⟨l,hl,hj⟩:=tw n (by omega) h;have eC:n<cs.length:=by omega
  obtain⟨v,hv,hr⟩:=h n cs[n] (by simp[eC]);have CT:l.length=n:=by have:=hl.length;simp at this;omega
  refine⟨l ++ [v],?_,?_⟩
  ·rw[List.take_succ_eq_append_getElem eC]
   exact hl.append ⟨v,[],rfl,hr,rfl⟩
  ·intro j u hu
   by_cases TZ:j<n
   ·rw[List.getElem?_append_left (by omega)]at hu
    exact hj j u hu
   ·rw[List.getElem?_append_right (by omega)]at hu
    have:j-l.length=0:=by
     rcases Nat.eq_zero_or_pos (j-l.length) with h0|h0
     ·exact h0
     ·rw[List.getElem?_eq_none (by simp;omega)]at hu;cases hu
    rw[this]at hu;simp at hu;subst hu;have:j=n:=by omega
    subst this;exact hv
theorem nG{P:Program}{T:dM}(hT:bj P T){t:TypeId}{ti:oQ}(ht:T.get t=some ti){b off o:Nat}{c:Cells}{v:V}
  (hc:∀ (i:Nat) x,(c.aU.drop o)[i]?=some x -> ∃ v,w.cell? ⟨b,off+i,none⟩=some v/\a6 yv L F w x v)
  (hv:(ti.isAgg=true/\o+ti.size<=c.aU.length/\v=c.sub o ti.size)\/(ti.isAgg=false/\c.aU[o]?=some v)) :
  ∃ x,(loadVar t ⟨b,off,none⟩).run P w = .ok x w/\a6 yv L F w v x:=by
 rcases hv with⟨hA,hn,rfl⟩|⟨hA,hv⟩
 ·obtain⟨l,hl,hj⟩:=tw ti.size (by simp;omega) hc
  have CT:l.length=ti.size:=by have:=hl.length;simp at this;omega
  have bA:(loadCells ⟨b,off,none⟩ l.length).run P w = .ok l.toArray w:=
   run_loadCells_list (P:=P) w ⟨b,off,none⟩ l (fun j v hv=>by rw[eF];exact hj j v hv)
  rw[CT]at bA;exact⟨.agg l.toArray,by simp[loadVar,jB hT ht,hA,dK hT ht,bA],a6.sub (by simpa using hl)⟩
 ·obtain⟨x,hx,hr⟩:=hc 0 v (by rw[List.getElem?_drop];exact hv)
  exact⟨x,by simp[loadVar,jB hT ht,hA]at hx ⊢;simp[hx],hr⟩
theorem rL{α:Type}{sz:Nat}:∀ {es:List (List α)} {i j:Nat} {e:List α} {c:α},cJ sz es->es[i]?=some e->e[j]?=some c->es.flatten[i*sz+j]?=some c
 | [],i,j,e,c,_,hi,_=>by simp at hi
 | f::es,0,j,e,c,h,hi,hj=>by
  simp at hi;subst hi;have:j<f.length:=(List.getElem?_eq_some_iff.1 hj).1;rw[List.flatten_cons,Nat.zero_mul,Nat.zero_add,List.getElem?_append_left this];exact hj
 | f::es,i+1,j,e,c,h,hi,hj=>by
  have hf:=h f (List.mem_cons_self ..);rw[List.flatten_cons,List.getElem?_append_right (by rw[Nat.succ_mul];omega)];have:(i+1)*sz+j-f.length=i*sz+j:=by rw[Nat.succ_mul];omega
  rw[this];exact rL (fun e he=>h e (List.mem_cons_of_mem _ he)) (by simpa using hi) hj
theorem iL{α:Type}{sz:Nat}:∀ {es:List (List α)},cJ sz es->es.flatten.length=es.length*sz
 | [],_=>by simp
 | f::es,h=>by
  rw[List.flatten_cons,List.length_append,iL (fun e he=>h e (List.mem_cons_of_mem _ he)),h f (List.mem_cons_self ..),List.length_cons,Nat.succ_mul];omega
theorem yh{es:aC}{n:Nat}{K:Cells->Prop}(h:es.JG n K):∃ c,es.aU[n]?=some c.aU/\K c:=by
 cases es with
 | dd l=>
  obtain⟨v,hv,hk⟩:=lW h;exact⟨.dd v,by simp[aC.aU,cB,hv,Cells.aU],hk⟩
 | vv l=>
  obtain⟨v,hv,hk⟩:=lW h;exact⟨.vv v,by simp[aC.aU,hv,Cells.aU],hk⟩
theorem bG.DT{id:Nat}{c:Cells}(h:bG yv L F w id (.box c))(o:Nat):∀ (i:Nat) x,(c.aU.drop o)[i]?=some x -> ∃ v,w.cell? ⟨L.ρ id,o+i,none⟩=some v/\a6 yv L F w x v:=by
 intro i x hx;obtain⟨l,T,hl,hr⟩:=h;rw[List.getElem?_drop]at hx;obtain⟨v,hv,yH⟩:=aq.get _ hr hx;exact⟨v,by rw[cell_of_row _ _ _ _ _ _ hl];simpa using hv,yH⟩
theorem bG.DR{id sz i:Nat}{es:aC}{c:Cells}(h:bG yv L F w id (.arr sz es))(hi:es.aU[i]?=some c.aU)(o:Nat) :
  ∀ (j:Nat) x,(c.aU.drop o)[j]?=some x -> ∃ v,w.cell? ⟨L.ρ id,i*sz+o+j,none⟩=some v/\a6 yv L F w x v:=by
 intro j x hx;obtain⟨hs,hl,h⟩:=h;rw[List.getElem?_drop]at hx;rcases h with⟨he,_⟩|⟨l,T,jz,hk,hn,hr⟩
 ·rw[he]at hi;simp at hi
 ·have hg:=rL hl hi hx
  obtain⟨v,hv,yH⟩:=aq.get _ hr hg;refine⟨v,?_,yH⟩;rw[cell_of_row _ _ _ _ _ _ jz,Nat.add_assoc];rw[List.getElem?_take]at hv;split at hv
  ·simpa using hv
  ·cases hv
end
section
variable {P : Program} {T : dM} {e : Env} {h : av} {dst : Option Nat} {K : List Wr -> Prop} {ty : TypeId} {pos : String} {after : Array Edge} {guard : Option (Nat × Bool)}
theorem BR(hT:bj P T){t:TypeId}{x:Operand}{K:V->Prop}(hk:yW T e h t x K) :
  ∃ v,K v /\ ∀ {σ:Type} (cx:Cx σ) (L:Loc) (F:Nat->Nat) (s:σ) (u:Value) (w:World) (hp:av),cM h hp->bo cx L F hp s w->(∀ v,aM e x=some v->a6 cx.yv L F w v u) ->
   ∃ b off y,u = .pointer (some ⟨b,off,none⟩)/\(loadVar t ⟨b,off,none⟩).run P w = .ok y w/\a6 cx.yv L F w v y:=by
 unfold yW at hk;split at hk
 ·exact hk.elim
 rename_i v hv;split at hk
 ·rename_i cs ti hp ht
  obtain⟨r,hr,hc⟩:=tM hk;refine⟨r,hr,fun cx L F s u w EM hs hg hu=>?_⟩;unfold placeOf at hp;split at hp<;>cases hp
  obtain⟨b,off,rfl,xT⟩:=hu _ hv;obtain⟨y,hy,hr⟩:=nG (yv:=cx.yv) (L:=L) (F:=F) (w:=w) (b:=b) (off:=off) (o:=0) hT ht (fun i x hx=>by
   rw[List.drop_zero,Cells.aU,sX]at hx
   cases sR:cs[i]? with
   | none=>simp[sR]at hx
   | some c=>
    simp[sR]at hx;subst hx;exact(cf.get i xT sR).2) hc
  exact⟨b,off,y,rfl,hy,hr⟩
 ·rename_i id off ti hp ht
  have rd:∀ (cs:Cells),cs.cm ti off K->(∀ {yv:Option Nat} {L:Loc} {F:Nat->Nat} {w:World} {o:Obj},get h id=some o->bG yv L F w id o->bG yv L F w id (.box cs)) ->
    ∃ v,K v /\ ∀ {σ:Type} (cx:Cx σ) (L:Loc) (F:Nat->Nat) (s:σ) (u:Value) (w:World) (hp:av),cM h hp->bo cx L F hp s w->(∀ v,aM e x=some v->a6 cx.yv L F w v u) ->
   ∃ b off y,u = .pointer (some ⟨b,off,none⟩)/\(loadVar t ⟨b,off,none⟩).run P w = .ok y w/\a6 cx.yv L F w v y:=by
   intro cs hk FM;obtain⟨r,hr,hc⟩:=tM hk;refine⟨r,hr,fun cx L F s u w EM hs hg hu=>?_⟩;unfold placeOf at hp;split at hp<;>cases hp
   have hu:u = .pointer (some ⟨L.ρ id,off,none⟩):=hu _ hv;have ho:∃ o,get h id=some o/\bG cx.yv L F w id o:=by
    cases CN:get h id with
    | none=>exact absurd hk (by simp[CN]at *)
    | some o=>exact⟨o,rfl,hg.obj id _ (hs _ _ CN)⟩
   obtain⟨o,LD,SY⟩:=ho;obtain⟨y,hy,hr⟩:=nG (yv:=cx.yv) (L:=L) (F:=F) (w:=w) (b:=L.ρ id) (off:=off) (o:=off) hT ht (bG.DT (FM LD SY) off) hc;exact⟨_,_,y,hu,hy,hr⟩
  split at hk;case h_3=>exact hk.elim
  ·rename_i cs FM
   exact rd cs hk fun ho hr=>by rw[FM]at ho;cases ho;exact hr
  ·rename_i tt l FM
   exact rd (.vv l) hk fun ho hr=>by
    rw[FM]at ho;cases ho;obtain⟨c,hc,hr⟩:=hr;exact⟨c,_,hc,hr⟩
 ·rename_i id sz i off ti hp ht
  split at hk;case h_2=>exact hk.elim
  rename_i n es mQ;obtain⟨hn,hk⟩:=bK hk;have hn:=dc hn;obtain⟨c,IK,hk⟩:=yh hk;obtain⟨r,hr,hc⟩:=tM hk;refine⟨r,hr,fun cx L F s u w EM hs hg hu=>?_⟩;unfold placeOf at hp;split at hp<;>cases hp
  have hu:u = .pointer (some ⟨L.ρ id,i*sz+off,none⟩):=hu _ hv;subst hn;obtain⟨y,hy,hr⟩:=nG (yv:=cx.yv) (L:=L) (F:=F) (w:=w) (b:=L.ρ id) (off:=i*n+off) (o:=off) hT ht (bG.DR (hg.obj id _ (hs _ _ mQ)) IK off) hc;exact⟨_,_,y,hu,hy,hr⟩
 ·exact hk.elim
theorem Fe(hT:bj P T){t:TypeId}{x:Operand}(hk:fo T e h dst (.load t x) K):∃ ws,K ws/\Out P e h ⟨dst,.load t x,ty,pos,after,guard⟩ ws:=by
 simp only[fo]at hk;obtain⟨v,hv,hl⟩:=BR (P:=P) hT hk;refine⟨_,hv,bp (o:=⟨dst,.load t x,ty,pos,after,guard⟩) fun cx r m L F st a w he hh hg=>?_⟩;obtain⟨b,off,y,hu,hy,hr⟩:=hl cx L F st.s (a.eval x) w st.heap hh hg.heap (fun v hv=>hg.aM (aG he hv));exact⟨y,by simp[execOp,Instr.loadAt,hu,Instr.sureAddr,hy],hr⟩
theorem vT(hT:bj P T){t:TypeId}{i off:Nat}{fi:oQ}(h:pY T t i=some (off,fi)) :
  ∃ (fa:Array Field) (f:Field),P.underlying t=some (.struct fa)/\fa[i]?=some f/\f.offset=off/\T.get f.type=some fi:=by
 unfold pY at h;split at h;case h_2=>cases h
 rename_i ti fL;split at h;case h_2=>cases h
 rename_i fs hk;split at h;case h_2=>cases h
 rename_i TI ft hi;split at h;case h_2=>cases h
 rename_i TU Lf;cases h;obtain⟨ii,de,SH,fV,_,_,dt,_⟩:=hT t ti fL;rw[hk]at dt;obtain⟨fa,rfl,rfl,_⟩:=gA dt.symm;rw[List.getElem?_map]at hi
 cases hf:fa.toList[i]? with
 | none=>rw[hf]at hi;cases hi
 | some f=>
  rw[hf]at hi;cases hi;exact⟨fa,f,fV,by simpa using hf,rfl,Lf⟩
theorem wB{v:V}{p:Place}(hp:placeOf v=some p)(n:Nat){yv:Option Nat}{L:Loc}{F:Nat->Nat}{w:World}{u:Value}(hr:a6 yv L F w v u) :
  ∃ b off,u = .pointer (some ⟨b,off,none⟩)/\a6 yv L F w (p.add n) (.pointer (some ⟨b,off+n,none⟩)):=by
 unfold placeOf at hp;split at hp<;>cases hp
 ·obtain⟨b,off,rfl,xT⟩:=hr
  exact⟨b,off,rfl,b,off+n,rfl,cf.drop n xT⟩
 ·exact⟨_,_,hr,rfl⟩
 ·exact⟨_,_,hr,by show Value.pointer _=Value.pointer _;rw[Nat.add_assoc]⟩
theorem vw(hT:bj P T){t:TypeId}{x:Operand}{i:Nat}(hk:fo T e h dst (.fieldAddr t x i) K):∃ ws,K ws/\Out P e h ⟨dst,.fieldAddr t x i,ty,pos,after,guard⟩ ws:=by
 simp only[fo]at hk;split at hk;case h_2=>exact hk.elim
 rename_i v off fi hv hf;obtain⟨cU,hk⟩:=bK hk;have cU:=uB cU;split at hk;case h_2=>exact hk.elim
 rename_i p hp;obtain⟨fa,f,hu,Lf,rfl,Pd⟩:=vT hT hf;refine⟨_,hk,bp (o:=⟨dst,.fieldAddr t x i,ty,pos,after,guard⟩) fun cx r m L F st a w he hh hg=>?_⟩;obtain⟨b,o',cP,hr⟩:=wB hp f.offset (hg.aM (aG he hv));exact⟨_,by simp[execOp,Instr.fieldAt,run_underlying hu,Lf,cP,Instr.sureAddr,fieldPlace,dK hT Pd,cU,eF],hr⟩
theorem wG(hT:bj P T){yv:Option Nat}{L:Loc}{F:Nat->Nat}{w:World}{t:TypeId}{ti:oQ}(ht:T.get t=some ti){cs:Array Value}{c:Cells}{off:Nat}(hx:aq yv L F w c.aU cs.toList){v:V}
  (hv:(ti.isAgg=true/\off+ti.size<=c.aU.length/\v=c.sub off ti.size)\/(ti.isAgg=false/\c.aU[off]?=some v)) :
  ∃ y,(part t cs off).run P w = .ok y w/\a6 yv L F w v y:=by
 rcases hv with⟨hA,hn,rfl⟩|⟨hA,hv⟩
 ·refine⟨.agg (cs.extract off (off+ti.size)),by simp[part,jB hT ht,hA,dK hT ht],a6.sub ?_⟩
  have:(cs.extract off (off+ti.size)).toList=(cs.toList.drop off).take ti.size:=by simp[List.extract_eq_take_drop]
  rw[this];exact(hx.drop off).take _
 ·obtain⟨y,hy,hr⟩:=aq.get off hx hv
  have mb:cs[off]?=some y:=by simpa using hy
  exact⟨y,by simp[part,jB hT ht,hA,mb],hr⟩
theorem Dj(hT:bj P T){t:TypeId}{x:Operand}{i:Nat}(hk:fo T e h dst (.field t x i) K):∃ ws,K ws/\Out P e h ⟨dst,.field t x i,ty,pos,after,guard⟩ ws:=by
 simp only[fo]at hk;have key:∀ (c:Cells) (off:Nat) (fi:oQ) (u:V),aM e x=some u->pY T t i=some (off,fi)->(∀ (yv:Option Nat) (L:Loc) (F:Nat->Nat) (w:World) (y:Value),a6 yv L F w u y -> ∃ l:Array Value,y = .agg l/\aq yv L F w c.aU l.toList) ->
   c.cm fi off (fun v=>K (a9 dst v)) -> ∃ ws,K ws/\Out P e h ⟨dst,.field t x i,ty,pos,after,guard⟩ ws:=by
  intro c off fi u hu hf hr hk;obtain⟨v,hv,hc⟩:=tM hk;obtain⟨fa,f,sw,Lf,rfl,Pd⟩:=vT hT hf;refine⟨_,hv,bp (o:=⟨dst,.field t x i,ty,pos,after,guard⟩) fun cx r m L F st a w he hh hg=>?_⟩;obtain⟨l,hl,Py⟩:=hr _ _ _ _ _ (hg.aM (aG he hu));obtain⟨y,hy,hr⟩:=wG hT Pd Py hc;exact⟨y,by simp[execOp,Instr.field,run_underlying sw,Lf,hl,asAgg,hy],hr⟩
 split at hk
 ·rename_i cs off fi hu hf
  exact key (.dd cs) off fi _ hu hf (fun yv L F w y hr=>by obtain⟨l,rfl,hl⟩:=hr;exact⟨l,rfl,aq.inj.2 hl⟩) hk
 ·rename_i cs off fi hu hf
  exact key (.vv cs) off fi _ hu hf (fun yv L F w y hr=>by obtain⟨l,rfl,hl⟩:=hr;exact⟨l,rfl,hl⟩) hk
 ·exact hk.elim
theorem Gk{es:List (List D)}{i:Int}{K:List D->Prop}(h:vQ es i K):∃ l,0<=i/\es[i.toNat]?=some l/\K l:=by
 unfold vQ at h;split at h
 ·rename_i l h0 hl;exact⟨l,of_decide_eq_true h0,hl,h⟩
 ·exact h.elim
theorem eb(hT:bj P T){t:TypeId}{ti:oQ}(ht:T.get t=some ti):∃ d,P.underlying t=some d/\ti.kd=ik d:=by
 obtain⟨i,d,hi,hd,_,_,hk,_⟩:=hT t ti ht;exact⟨d,hd,hk⟩
theorem vx(hT:bj P T){t:TypeId}{x i:Operand}(hk:fo T e h dst (.indexAddr t x i) K):∃ ws,K ws/\Out P e h ⟨dst,.indexAddr t x i,ty,pos,after,guard⟩ ws:=by
 simp only[fo]at hk;split at hk;case h_2=>exact hk.elim
 rename_i ti v k n ht hv hi;obtain⟨d,hu,dt⟩:=eb hT ht;split at hk
 ·rename_i el dC
  rw[dC]at dt;have:=et dt.symm;subst this;split at hk;case h_2=>exact hk.elim
  rename_i ei iB;obtain⟨cU,hk⟩:=bK hk;have cU:=uB cU;split at hk
  ·rename_i es _
   obtain⟨l,ni,hl,hk⟩:=Gk hk;obtain⟨CT,hk⟩:=bK hk;have CT:=dc CT;refine⟨_,hk,bp (o:=⟨dst,.indexAddr t x i,ty,pos,after,guard⟩) fun cx r m L F st a w he hh hg=>?_⟩;have GC:=gP hg he hi;obtain⟨a0,len,cap,cP,hlen,jM,mQ⟩:=hg.aM (aG he hv);obtain⟨b,off,sz,rfl,C0,xT⟩:=mQ (by rintro rfl;simp at hl);obtain⟨SQ,PS⟩:=cF.get n.toNat xT hl;have AG:sz=ei.size:=by omega
   have mL:n.toNat<es.length:=(List.getElem?_eq_some_iff.1 hl).1;refine⟨.pointer (some ⟨b,off+n.toNat*ei.size,none⟩),?_,b,_,rfl,AG▸PS⟩;have h1:(n:Int)<(len:Int):=by rw[hlen];omega
   simp[execOp,Instr.indexAt,GC,asIntOf,run_underlying hu,cP,ni,h1,dK hT iB,eF]
  ·rename_i id sz off len _
   obtain⟨hn,hk⟩:=bK hk;simp only[Bool.and_eq_true,decide_eq_true_eq]at hn;obtain⟨AG,hk⟩:=bK hk;have AG:=dc AG;refine⟨_,hk,bp (o:=⟨dst,.indexAddr t x i,ty,pos,after,guard⟩) fun cx r m L F st a w he hh hg=>?_⟩;have GC:=gP hg he hi;obtain⟨a0,cap,cP,jM,C0,hb⟩:=hg.aM (aG he hv);rcases hb with⟨h0,_⟩|⟨rfl,hb⟩
   ·omega
   refine⟨.pointer (some ⟨L.ρ id,off*sz+n.toNat*ei.size,none⟩),?_,?_⟩
   ·simp[execOp,Instr.indexAt,GC,asIntOf,run_underlying hu,cP,hn.1,hn.2,dK hT iB,eF]
   ·show Value.pointer _=Value.pointer _
    rw[<- AG,Nat.add_zero,Nat.add_mul]
  ·exact hk.elim
 ·rename_i len el dC
  rw[dC]at dt;have:=eT dt.symm;subst this;split at hk;case h_2=>exact hk.elim
  rename_i ei p iB hp;obtain⟨cU,hk⟩:=bK hk;have cU:=uB cU;obtain⟨hn,hk⟩:=bK hk;simp only[Bool.and_eq_true,decide_eq_true_eq]at hn;refine⟨_,hk,bp (o:=⟨dst,.indexAddr t x i,ty,pos,after,guard⟩) fun cx r m L F st a w he hh hg=>?_⟩;have GC:=gP hg he hi;obtain⟨b,o',cP,hr⟩:=wB hp (n.toNat*ei.size) (hg.aM (aG he hv));exact⟨_,by simp[execOp,Instr.indexAt,GC,asIntOf,run_underlying hu,cP,Instr.sureAddr,hn.1,hn.2,dK hT iB,eF],hr⟩
 ·exact hk.elim
theorem Dk(hT:bj P T){t:TypeId}{x i:Operand}(hk:fo T e h dst (.index t x i) K):∃ ws,K ws/\Out P e h ⟨dst,.index t x i,ty,pos,after,guard⟩ ws:=by
 simp only[fo]at hk;split at hk;case h_2=>exact hk.elim
 rename_i ti v k n ht hv hi;obtain⟨d,hu,dt⟩:=eb hT ht;have key:∀ (c:Cells) (len:Nat) (el:TypeId) (ei:oQ),d = .array len el->T.get el=some ei->0<=n/\n<len ->
   (∀ (yv:Option Nat) (L:Loc) (F:Nat->Nat) (w:World) (y:Value),a6 yv L F w v y -> ∃ l:Array Value,y = .agg l/\aq yv L F w c.aU l.toList) ->
   c.cm ei (n.toNat*ei.size) (fun v=>K (a9 dst v)) -> ∃ ws,K ws/\Out P e h ⟨dst,.index t x i,ty,pos,after,guard⟩ ws:=by
  intro c len el ei fV iB hn hr hk;subst fV;obtain⟨u,C1,hc⟩:=tM hk;refine⟨_,C1,bp (o:=⟨dst,.index t x i,ty,pos,after,guard⟩) fun cx r m L F st a w he hh hg=>?_⟩;have GC:=gP hg he hi;obtain⟨l,hl,Py⟩:=hr _ _ _ _ _ (hg.aM (aG he hv));obtain⟨y,hy,hr⟩:=wG hT iB Py hc;exact⟨y,by simp[execOp,Instr.index,GC,hl,asIntOf,run_underlying hu,hn.1,hn.2,dK hT iB,hy],hr⟩
 split at hk
 ·rename_i s dC
  rw[dC]at dt;have:=gT dt.symm;subst this;obtain⟨hn,hk⟩:=bK hk;have hn:=of_decide_eq_true hn;obtain⟨b,hb,hk⟩:=lW hk;refine⟨_,hk,bp (v:=.d (.int .u8 b.toNat)) (o:=⟨dst,.index t x i,ty,pos,after,guard⟩) fun cx r m L F st a w he hh hg=>?_⟩;have GC:=gP hg he hi;have Tm:=jH hg he hv;have CU:n.toNat<s.data.toList.length:=(List.getElem?_eq_some_iff.1 hb).1;have eC:n.toNat<s.size:=by simpa using CU
  have kN:s[n.toNat]?=some b:=by
   rw[getElem?_pos s n.toNat eC];rw[List.getElem?_eq_getElem CU]at hb;cases hb;rfl
  exact⟨.int .u8 b.toNat,by simp[execOp,Instr.index,GC,Tm,asIntOf,run_underlying hu,hn,kN],rfl⟩
 ·rename_i len el cs dC
  rw[dC]at dt;split at hk;case h_2=>exact hk.elim
  rename_i ei iB;obtain⟨hn,hk⟩:=bK hk;simp only[Bool.and_eq_true,decide_eq_true_eq]at hn;exact key (.dd cs) len el ei (eT dt.symm) iB hn (fun yv L F w y hr=>by obtain⟨l,rfl,hl⟩:=hr;exact⟨l,rfl,aq.inj.2 hl⟩) hk
 ·rename_i len el cs dC
  rw[dC]at dt;split at hk;case h_2=>exact hk.elim
  rename_i ei iB;obtain⟨hn,hk⟩:=bK hk;simp only[Bool.and_eq_true,decide_eq_true_eq]at hn;exact key (.vv cs) len el ei (eT dt.symm) iB hn (fun yv L F w y hr=>by obtain⟨l,rfl,hl⟩:=hr;exact⟨l,rfl,hl⟩) hk
 ·exact hk.elim
end
section
variable {yv : Option Nat} {L : Loc} {F : Nat -> Nat} {w : World}
theorem bC.one{a:D}{v:Value}(h:bC F w a v)(hs:a.scalar=true):v.oneCell'=true:=by
 cases a<;>simp[D.scalar]at hs<;>simp only[bC]at h
 case bool=>subst h;rfl
 case int=>subst h;rfl
 case str=>subst h;rfl
 case vs=>obtain⟨a,len,cap,rfl,_⟩:=h;rfl
 case nils=>subst h;rfl
 case ref=>obtain⟨b,off,rfl,_⟩:=h;rfl
 case nilp=>subst h;rfl
 case mv=>obtain⟨r,en,c,rfl,_⟩:=h;rfl
 case nilm=>subst h;rfl
 case clo=>obtain⟨l,rfl,_⟩:=h;rfl
 case mth=>obtain⟨l,rfl,_⟩:=h;rfl
 case nilf=>subst h;rfl
 case ifc=>obtain⟨y,rfl,_⟩:=h;rfl
 case nili=>subst h;rfl
theorem a6.one{a:V}{v:Value}(h:a6 yv L F w a v)(hs:a.scalar=true):v.oneCell'=true:=by
 cases a<;>simp[V.scalar]at hs<;>simp only[a6]at h
 case d=>exact bC.one h hs
 case ptr=>subst h;rfl
 case ep=>subst h;rfl
 case sl=>obtain⟨a,cap,rfl,_⟩:=h;rfl
 case mp=>subst h;rfl
 case it=>subst h;rfl
 case clo=>obtain⟨l,rfl,_⟩:=h;rfl
 case yld=>obtain⟨l,_,rfl⟩:=h;rfl
 case unk=>exact h
theorem Dc{v:Value}(h:v.oneCell'=true):v.cells.toList = [v]:=by
 cases v<;>simp_all[Value.oneCell',Value.cells]
theorem a6.cells{a:V}{v:Value}(h:a6 yv L F w a v)(hs:a.cells.ok=true):aq yv L F w a.cells.aU v.cells.toList:=by
 have key:a.scalar=true->a.cells.aU = [a]->aq yv L F w a.cells.aU v.cells.toList:=fun h1 h2=>by
  rw[h2,Dc (h.one h1)];exact⟨v,[],rfl,h,rfl⟩
 cases a with
 | d x=>
  cases x with
  | agg cs=>
   obtain⟨l,rfl,hl⟩:=h;exact aq.inj.2 hl
  | tup cs=>simp[V.cells,Cells.ok,gi,D.scalar]at hs
  | _=>exact key rfl rfl
 | agg cs=>
  obtain⟨l,rfl,hl⟩:=h;exact hl
 | tup cs=>simp[V.cells,Cells.ok,cb,V.scalar]at hs
 | _=>exact key rfl rfl
theorem kI:∀ (l:List D),cb (inj l)=gi l
 | []=>rfl
 | c::r=>by simp[inj,cb,gi,V.scalar,kI r]
theorem Cells.ok_eq(c:Cells):c.ok=cb c.aU:=by
 cases c
 ·exact(kI _).symm
 ·rfl
theorem ou:∀ {l:List V},cb l=true -> ∀ v∈l,v.scalar=true
 | [],_,v,hv=>by cases hv
 | x::r,h,v,hv=>by
  simp only[cb,Bool.and_eq_true]at h;rcases List.mem_cons.1 hv with rfl|hv
  ·exact h.1
  ·exact ou h.2 v hv
theorem aq.one{cs:List V}{l:List Value}(h:aq yv L F w cs l)(hs:cb cs=true):∀ v∈l,v.oneCell'=true:=by
 intro v hv;obtain⟨i,hi,rfl⟩:=List.getElem_of_mem hv;have hlen:=h.length;have hc:cs[i]?=some cs[i]:=List.getElem?_eq_getElem (by omega);obtain⟨y,hy,hr⟩:=h.get i hc;rw[List.getElem?_eq_getElem hi]at hy;cases hy;exact hr.one (ou hs _ (List.getElem_mem _))
theorem hP{v:Value}{z:List D}(h:zeroCells v=some z):aY F w z v.cells.toList:=by
 unfold zeroCells at h;have sc:∀ {d:D},j5 v=some d->v.cells.toList = [v]/\bC F w d v:=by
  intro d hd;refine⟨?_,kH hd⟩;unfold j5 at hd;split at hd<;>first|(cases hd;done)|rfl
 split at h
 ·rename_i l hl
  cases h;unfold ofConst at hl;split at hl
  ·rename_i cs
   cases hs:gD cs.toList with
   | none=>rw[hs]at hl;cases hl
   | some l'=>rw[hs]at hl;cases hl;exact ja hs
  ·rename_i cs
   split at hl
   ·cases hl
   ·cases hl
  ·unfold j5 at hl
   split at hl<;>cases hl
 ·cases h
 ·rename_i d h1 h2 hd
  cases h;unfold ofConst at hd;split at hd
  ·rename_i cs
   cases hs:gD cs.toList with
   | none=>rw[hs]at hd;cases hd
   | some l'=>rw[hs]at hd;cases hd;exact absurd rfl (h1 _)
  ·rename_i cs
   split at hd
   ·cases hd;exact absurd rfl (h2 _)
   ·cases hd
  ·obtain⟨e1,e2⟩:=sc hd
   rw[e1];exact⟨v,[],rfl,e2,rfl⟩
 ·cases h
end
section
variable {P : Program} {T : dM} {e : Env} {h : av} {dst : Option Nat} {K : List Wr -> Prop} {ty : TypeId} {pos : String} {after : Array Edge} {guard : Option (Nat × Bool)}
theorem Hf{fn:Fn}{first bS:Array Operand}(hk:Jp e dst fn first.toList bS.toList K):∃ ws,K ws/\Out P e h ⟨dst,.makeFunc fn first bS,ty,pos,after,guard⟩ ws:=by
 generalize hf:first.toList=fl at hk
 generalize hc:bS.toList=cl at hk;unfold Jp at hk;split at hk;case h_2=>exact hk.elim
 rename_i f x r;split at hk;case h_2=>exact hk.elim
 rename_i l hl;split at hk;case h_2=>exact hk.elim
 rename_i ds hd;have Sl:bS = #[]:=by simpa using hc
 subst Sl;refine⟨_,hk,bp (v:=.d (.mth f ds)) (o:=⟨dst,.makeFunc (.func f) first #[],ty,pos,after,guard⟩) fun cx r m L F st a w he hh hg=>⟨.func (.func f) (first.map a.eval) #[],by simp[execOp,Instr.makeFunc],_,rfl,?_⟩⟩;have:=hg.cQ (jA he hl);rw[iy hd,<- hf]at this;simpa using aq.inj.1 this
theorem xA{fn:Fn}{first bS:Array Operand}(hk:fo T e h dst (.makeFunc fn first bS) K):∃ ws,K ws/\Out P e h ⟨dst,.makeFunc fn first bS,ty,pos,after,guard⟩ ws:=by
 simp only[fo]at hk;split at hk;case h_2=>exact Hf hk
 rename_i f l hf hl;have Sx:first = #[]:=by simpa using hf
 subst Sx;have run:∀ (a:Act) (w:World),(execOp a.eval ⟨dst,.makeFunc (.func f) #[] bS,ty,pos,after,guard⟩).run P w = .ok (.value (.func (.func f) #[] (bS.map a.eval))) w:=fun a w=>by
  simp[execOp,Instr.makeFunc]
 split at hk
 ·rename_i ds hd
  refine⟨_,hk,bp (v:=.d (.clo f ds)) (o:=⟨dst,.makeFunc (.func f) #[] bS,ty,pos,after,guard⟩) fun cx r m L F st a w he hh hg=>⟨_,run a w,_,rfl,?_⟩⟩;have:=hg.cQ (jA he hl);rw[iy hd]at this;simpa using aq.inj.1 this
 ·refine⟨_,hk,bp (v:=.clo f l) (o:=⟨dst,.makeFunc (.func f) #[] bS,ty,pos,after,guard⟩) fun cx r m L F st a w he hh hg=>⟨_,run a w,_,rfl,?_⟩⟩
  simpa using hg.cQ (jA he hl)
theorem qM{n:Nat}{lo hi:Option V}{K:Nat->Nat->Prop}(hk:ry n lo hi K) :
  ∃ l u,K l u/\l<=u/\u<=n /\ ∀ (cap:Nat) (Md:Bool) (lv hv:Option Value) (w:World),n<=cap ->
   (∀ v,lo=some v -> ∃ x,lv=some x /\ ∀ k i,v = .d (.int k i)->x = .int k i)->(lo=none->lv=none)->(∀ v,hi=some v -> ∃ x,hv=some x /\ ∀ k i,v = .d (.int k i)->x = .int k i)->(hi=none->hv=none) ->
   (Instr.sliceBounds Md n cap lv hv none).run P w = .ok (l,u,cap) w:=by
 unfold ry at hk;split at hk
 ·split at hk
  ·refine⟨_,_,hk,Nat.zero_le _,Nat.le_refl _,fun cap Md lv hv w hc h1 h2 h3 h4=>?_⟩
   rw[h2 rfl,h4 rfl];simp[Instr.sliceBounds]
  ·rename_i k i
   obtain⟨hb,hk⟩:=bK hk;simp only[Bool.and_eq_true,decide_eq_true_eq]at hb;refine⟨_,_,hk,by omega,Nat.le_refl _,fun cap Md lv hv w hc h1 h2 h3 h4=>?_⟩;obtain⟨x,rfl,hx⟩:=h1 _ rfl;rw[h4 rfl,hx _ _ rfl];simp[Instr.sliceBounds,Instr.sliceBound,asIntOf,hb.1,hb.2]
  ·exact hk.elim
 ·rename_i k i
  obtain⟨hb,hk⟩:=bK hk;simp only[Bool.and_eq_true,decide_eq_true_eq]at hb;split at hk
  ·refine⟨_,_,hk,Nat.zero_le _,by omega,fun cap Md lv hv w hc h1 h2 h3 h4=>?_⟩
   obtain⟨x,rfl,hx⟩:=h3 _ rfl;rw[h2 rfl,hx _ _ rfl];have Pk:i<=(cap:Int):=by omega
   simp[Instr.sliceBounds,Instr.sliceBound,asIntOf,hb.1,Pk]
  ·rename_i k' j _
   obtain⟨kN,hk⟩:=bK hk;simp only[Bool.and_eq_true,decide_eq_true_eq]at kN;refine⟨_,_,hk,by omega,by omega,fun cap Md lv hv w hc h1 h2 h3 h4=>?_⟩;obtain⟨x,rfl,hx⟩:=h3 _ rfl;obtain⟨y,rfl,hy⟩:=h1 _ rfl;rw[hx _ _ rfl,hy _ _ rfl];have Pk:i<=(cap:Int):=by omega
   have h2:j<=max i 0:=by omega
   simp[Instr.sliceBounds,Instr.sliceBound,asIntOf,hb.1,Pk,kN.1,h2]
  ·exact hk.elim
 ·exact hk.elim
theorem BW{σ:Type}{cx:Cx σ}{r:Option Nat}{m:List Nat}{L:Loc}{F:Nat->Nat}{st:St σ}{a:Act}{w:World}(hg:Good cx r m L F st a w)(he:cM e st.env){x:Option Operand}{v:Option V}
  (hx:y7 e x=some v):(∀ u,v=some u -> ∃ y,x.map a.eval=some y/\a6 cx.yv L F w u y)/\(v=none->x.map a.eval=none):=by
 cases x with
 | none=>simp only[y7,Option.some.injEq]at hx;subst hx;exact⟨(fun u hu=>by cases hu),fun _=>rfl⟩
 | some x=>
  simp only[y7]at hx;split at hx
  ·rename_i u hu
   cases hx;exact⟨fun u' JX=>by cases JX;exact⟨_,rfl,hg.aM (aG he hu)⟩,fun h=>by cases h⟩
  ·cases hx
theorem Dm(hT:bj P T){t:TypeId}{x:Operand}{lo hi mx:Option Operand}(hk:fo T e h dst (.slice t x lo hi mx) K):∃ ws,K ws/\Out P e h ⟨dst,.slice t x lo hi mx,ty,pos,after,guard⟩ ws:=by
 simp only[fo]at hk;split at hk
 ·exact hk.elim
 split at hk;case h_2=>exact hk.elim
 rename_i ti v l u ht hv hl hu;obtain⟨d,sw,dt⟩:=eb hT ht;have Gf:∀ {σ:Type} {cx:Cx σ} {r:Option Nat} {m:List Nat} {L:Loc} {F:Nat->Nat} {st:St σ} {a:Act} {w:World},Good cx r m L F st a w->cM e st.env ->
   (∀ v,l=some v -> ∃ x,lo.map a.eval=some x /\ ∀ k i,v = .d (.int k i)->x = .int k i)/\(l=none->lo.map a.eval=none)/\(∀ v,u=some v -> ∃ x,hi.map a.eval=some x /\ ∀ k i,v = .d (.int k i)->x = .int k i)/\(u=none->hi.map a.eval=none):=by
  intro σ cx r m L F st a w hg he;obtain⟨h1,h2⟩:=BW hg he hl;obtain⟨h3,h4⟩:=BW hg he hu;refine⟨fun v hv=>?_,h2,fun v hv=>?_,h4⟩
  ·obtain⟨y,hy,hr⟩:=h1 v hv
   exact⟨y,hy,fun k i e=>by subst e;exact hr⟩
  ·obtain⟨y,hy,hr⟩:=h3 v hv
   exact⟨y,hy,fun k i e=>by subst e;exact hr⟩
 split at hk
 ·rename_i el es dC
  rw[dC]at dt;have:=et dt.symm;subst this;obtain⟨p,q,hk,PN,PR,bA⟩:=qM (P:=P) hk;obtain⟨cU,hk⟩:=bK hk;refine⟨_,hk,bp (v:=.d (.vs ((es.take q).drop p))) (o:=⟨dst,.slice t x lo hi none,ty,pos,after,guard⟩) fun cx r m L F st a w he hh hg=>?_⟩;obtain⟨a0,len,cap,cP,hlen,jM,mQ⟩:=hg.aM (aG he hv);obtain⟨b1,b2,b3,b4⟩:=Gf hg he;have hr:=bA cap true _ _ w (by omega) b1 b2 b3 b4;rw[<- hlen]at hr;unfold D5 at cU;split at cU;case h_2=>cases cU
  rename_i ei iB;refine⟨.slice (if cap=p then a0 else a0.map (·.add (p*ei.size))) (q-p) (cap-p),?_,_,_,_,rfl,by simp;omega,by omega,fun eA=>?_⟩
  ·simp[execOp,Instr.sliceAt,run_underlying sw,Instr.slice,cP,hr,dK hT iB]
  have LC:es ≠ []:=by rintro rfl;simp at eA
  obtain⟨b,off,sz,rfl,C0,xT⟩:=mQ LC;have P0:sz=ei.size:=by
   cases es with
   | nil=>exact absurd rfl LC
   | cons f g=>exact xT.1.symm.trans (dc cU)
  have sV:p<q:=by
   rcases Nat.lt_or_ge p q with h1|h1
   ·exact h1
   ·exact absurd (List.drop_eq_nil_of_le (by simp;omega)) eA
  have:¬ cap=p:=by omega
  refine⟨b,off+p*sz,sz,?_,C0,cF.drop p (cF.take q xT)⟩;rw[if_neg this,<- P0];simp[eF]
 ·rename_i el id sz off len dC
  rw[dC]at dt;have:=et dt.symm;subst this;obtain⟨p,q,hk,PN,PR,bA⟩:=qM (P:=P) hk;obtain⟨cU,hk⟩:=bK hk;refine⟨_,hk,bp (v:=.sl id sz (off+p) (q-p)) (o:=⟨dst,.slice t x lo hi none,ty,pos,after,guard⟩) fun cx r m L F st a w he hh hg=>?_⟩;obtain⟨a0,cap,cP,jM,C0,hb⟩:=hg.aM (aG he hv);obtain⟨b1,b2,b3,b4⟩:=Gf hg he;have hr:=bA cap true _ _ w (by omega) b1 b2 b3 b4;split at cU;case h_2=>cases cU
  rename_i ei iB;have cU:=dc cU;refine⟨.slice (if cap=p then a0 else a0.map (·.add (p*ei.size))) (q-p) (cap-p),?_,_,_,rfl,by omega,C0,?_⟩
  ·simp[execOp,Instr.sliceAt,run_underlying sw,Instr.slice,cP,hr,dK hT iB]
  rcases hb with⟨h0,h1⟩|⟨rfl,hb⟩
  ·exact .inl (by omega)
  ·by_cases Sn:cap=p
   ·exact .inl (by omega)
   ·right
    rw[if_neg Sn,<- cU];refine⟨by simp[eF,Nat.add_mul],?_⟩;have:off+p+(cap-p)=off+cap:=by omega
    rw[this];exact hb
 ·rename_i el dC
  rw[dC]at dt;have:=et dt.symm;subst this;obtain⟨p,q,hk,PN,PR,bA⟩:=qM (P:=P) hk;obtain⟨cU,hk⟩:=bK hk;refine⟨_,hk,bp (v:=.d .nils) (o:=⟨dst,.slice t x lo hi none,ty,pos,after,guard⟩) fun cx r m L F st a w he hh hg=>?_⟩;have cP:a.eval x = .slice none 0 0:=hg.aM (aG he hv);obtain⟨b1,b2,b3,b4⟩:=Gf hg he;have hr:=bA 0 true _ _ w (by omega) b1 b2 b3 b4;have xV:p=0:=by omega
  have LL:q=0:=by omega
  subst xV LL;obtain⟨ii,dd,SH,xj,_⟩:=hT t ti ht;refine⟨.slice none 0 0,?_,rfl⟩;have cU:∃ n,(sizeOf el).run P w = .ok n w:=by
   split at cU
   ·rename_i ei iB;exact⟨_,dK hT iB⟩
   ·cases cU
  obtain⟨n,hn⟩:=cU;simp[execOp,Instr.sliceAt,run_underlying sw,Instr.slice,cP,hr,hn]
 ·rename_i s dC
  rw[dC]at dt;have:=gT dt.symm;subst this;obtain⟨p,q,hk,PN,PR,bA⟩:=qM (P:=P) hk;refine⟨_,hk,bp (v:=.d (.str (s.extract p q))) (o:=⟨dst,.slice t x lo hi none,ty,pos,after,guard⟩) fun cx r m L F st a w he hh hg=>?_⟩;have cP:=jH hg he hv;obtain⟨b1,b2,b3,b4⟩:=Gf hg he;have hr:=bA s.size false _ _ w (Nat.le_refl _) b1 b2 b3 b4;exact⟨.string (s.extract p q),by simp[execOp,Instr.sliceAt,run_underlying sw,Instr.slice,cP,hr],rfl⟩
 ·exact hk.elim
end
mutual
theorem G5{i:Nat}:∀ {v:V},oG i v=false->¬ fD v i
 | .d _,_=>fun h=>h
 | .agg cs,h=>lz (l:=cs) h
 | .tup cs,h=>lz (l:=cs) h
 | .clo _ cs,h=>lz (l:=cs) h
 | .ptr j _,h=>fun e=>by have e:j=i:=e;subst e;simp[oG]at h
 | .ep j _ _ _,h=>fun e=>by have e:j=i:=e;subst e;simp[oG]at h
 | .sl j _ _ _,h=>fun e=>by have e:j=i:=e;subst e;simp[oG]at h
 | .mp j,h=>fun e=>by have e:j=i:=e;subst e;simp[oG]at h
 | .it j,h=>fun e=>by have e:j=i:=e;subst e;simp[oG]at h
 | .yld,_=>fun h=>h
 | .unk,_=>fun h=>h
theorem lz{i:Nat}:∀ {l:List V},dJ i l=false->¬ bF l i
 | [],_=>fun h=>h
 | v::r,h=>by
  simp only[dJ,Bool.or_eq_false_iff]at h;exact fun e=>e.elim (G5 h.1) (lz h.2)
end
theorem cI(l:List (List D)):(aO l).flatten=inj l.flatten:=by
 induction l with
 | nil=>rfl
 | cons x r ih=>simp[aO,ih,md]
theorem zZ{i:Nat}{c:Cells}(h:c.free i=true):¬ bF c.aU i:=by
 cases c with
 | dd l=>exact ef l i
 | vv l=>exact lz (by simpa[Cells.free,Cells.aU]using h)
theorem mZ{i:Nat}{c:aC}(h:c.free i=true):¬ bF c.aU.flatten i:=by
 cases c with
 | dd l=>show ¬ bF (aO l).flatten i;rw[cI];exact ef _ i
 | vv l=>exact lz (by simpa[aC.free,aC.aU]using h)
section
variable {P : Program} {T : dM} {e : Env} {h : av} {dst : Option Nat} {K : List Wr -> Prop} {ty : TypeId} {pos : String} {after : Array Edge} {guard : Option (Nat × Bool)}
theorem zn{F:Nat->Nat}{w:World}{yv:Option Nat}{L:Loc}:∀ {r:List V} {k:IntKind} {x:Int} {v:D} {l:List Value},C9 k x r=some v->aq yv L F w r l ->
  ∃ y,(l.foldlM Builtin.min2 (.int k x)).run P w = .ok y w/\bC F w v y
 | [],k,x,v,l,h,hl=>by
  simp only[C9,Option.some.injEq]at h;subst h;have:l = []:=hl;subst this;exact⟨.int k x,by simp,rfl⟩
 | c::r,k,x,v,l,h,hl=>by
  obtain⟨y,l',rfl,hc,jz⟩:=hl
  cases c with
  | d c=>
   cases c<;>simp only[C9]at h<;>first|(cases h;done)|skip
   rename_i k' b;have hc:y = .int k' b:=hc;subst hc;obtain⟨z,hz,Jb⟩:=zn h jz;refine⟨z,?_,Jb⟩;have:(if b<x then b else x)=min x b:=by simp only[Int.min_def];split<;>split<;>omega
   simp[Builtin.min2,this,hz]
  | _=>simp[C9]at h
theorem zm{F:Nat->Nat}{w:World}{yv:Option Nat}{L:Loc}:∀ {r:List V} {k:IntKind} {x:Int} {v:D} {l:List Value},C7 k x r=some v->aq yv L F w r l ->
  ∃ y,(l.foldlM Builtin.max2 (.int k x)).run P w = .ok y w/\bC F w v y
 | [],k,x,v,l,h,hl=>by
  simp only[C7,Option.some.injEq]at h;subst h;have:l = []:=hl;subst this;exact⟨.int k x,by simp,rfl⟩
 | c::r,k,x,v,l,h,hl=>by
  obtain⟨y,l',rfl,hc,jz⟩:=hl
  cases c with
  | d c=>
   cases c<;>simp only[C7]at h<;>first|(cases h;done)|skip
   rename_i k' b;have hc:y = .int k' b:=hc;subst hc;obtain⟨z,hz,Jb⟩:=zm h jz;refine⟨z,?_,Jb⟩;have:(if x<b then b else x)=max x b:=by simp only[Int.max_def];split<;>split<;>omega
   simp[Builtin.max2,this,hz]
  | _=>simp[C7]at h
theorem He{args:Array Operand}{tys:Array TypeId}(hk:dW T e h dst .min args tys K):∃ ws,K ws/\Out P e h ⟨dst,.call ⟨.builtin .min,args,tys⟩,ty,pos,after,guard⟩ ws:=by
 simp only[dW]at hk;split at hk;case h_2=>exact hk.elim
 rename_i k x r hr;split at hk;case h_2=>exact hk.elim
 rename_i v hm;refine⟨_,hk,bp (v:=.d v) (o:=⟨dst,.call ⟨.builtin .min,args,tys⟩,ty,pos,after,guard⟩) fun cx r' m L F st a w he hh hg=>?_⟩;obtain⟨y,l',cP,hy,jz⟩:=hg.cQ (jA he hr);have hy:y = .int k x:=hy;subst hy;obtain⟨z,hz,Jb⟩:=zn (P:=P) hm jz;have HP:(args.map a.eval).toList = .int k x::l':=by simpa using cP
 have Ay:(Builtin.min_ tys ty (args.map a.eval)).run P w = .ok z w:=by
  simp only[Builtin.min_,HP];exact hz
 exact⟨z,by simp[execOp,resolve,invoke,builtin,Ay],Jb⟩
theorem Hc{args:Array Operand}{tys:Array TypeId}(hk:dW T e h dst .max args tys K):∃ ws,K ws/\Out P e h ⟨dst,.call ⟨.builtin .max,args,tys⟩,ty,pos,after,guard⟩ ws:=by
 simp only[dW]at hk;split at hk;case h_2=>exact hk.elim
 rename_i k x r hr;split at hk;case h_2=>exact hk.elim
 rename_i v hm;refine⟨_,hk,bp (v:=.d v) (o:=⟨dst,.call ⟨.builtin .max,args,tys⟩,ty,pos,after,guard⟩) fun cx r' m L F st a w he hh hg=>?_⟩;obtain⟨y,l',cP,hy,jz⟩:=hg.cQ (jA he hr);have hy:y = .int k x:=hy;subst hy;obtain⟨z,hz,Jb⟩:=zm (P:=P) hm jz;have HP:(args.map a.eval).toList = .int k x::l':=by simpa using cP
 have Ay:(Builtin.max_ tys ty (args.map a.eval)).run P w = .ok z w:=by
  simp only[Builtin.max_,HP];exact hz
 exact⟨z,by simp[execOp,resolve,invoke,builtin,Ay],Jb⟩
theorem bH.at{F:Nat->Nat}{w:World}:∀ {cc:List (D×D)} {es:List MapEntry} {i:Nat} {e:MapEntry},bH F w cc es->es[i]?=some e -> ∃ k u,cc[i]?=some (k,u)/\bC F w k e.key/\bC F w u e.val
 | [],es,i,e,hr,h=>by
  have:es = []:=hr;subst this;simp at h
 | (k,u)::r,es,0,e,hr,h=>by
  obtain⟨x,l,rfl,h1,h2,_⟩:=hr;simp at h;subst h;exact⟨k,u,rfl,h1,h2⟩
 | (k,u)::r,es,i+1,e,hr,h=>by
  obtain⟨x,l,rfl,_,_,h3⟩:=hr;simpa using bH.at h3 (by simpa using h)
theorem bH.get{F:Nat->Nat}{w:World}:∀ {cc:List (D×D)} {es:List MapEntry},bH F w cc es->es.length=cc.length
 | [],es,h=>by rw[show es = [] from h];rfl
 | (k,v)::r,es,h=>by
  obtain⟨en,vg,rfl,_,_,hr⟩:=h;simp[bH.get hr]
theorem Hb(hT:bj P T){args:Array Operand}{tys:Array TypeId}(hk:dW T e h dst .len args tys K):∃ ws,K ws/\Out P e h ⟨dst,.call ⟨.builtin .len,args,tys⟩,ty,pos,after,guard⟩ ws:=by
 simp only[dW]at hk;split at hk;case h_2=>exact hk.elim
 rename_i x t rest cr yL;split at hk;case h_2=>exact hk.elim
 rename_i ti v ht hv;obtain⟨d,sw,dt⟩:=eb hT ht;have h0:∀ (a:Act),(args.map a.eval)[0]?=some (a.eval x):=by
  intro a;have:args[0]?=some x:=by
   have:args.toList[0]?=some x:=by rw[cr];rfl
   simpa using this
  simp[this]
 have LU:tys[0]?=some t:=by
  have:tys.toList[0]?=some t:=by rw[yL];rfl
  simpa using this
 have bA:∀ (a:Act) (w:World) v,(Builtin.len_ tys ty (args.map a.eval)).run P w = .ok v w->(execOp a.eval ⟨dst,.call ⟨.builtin .len,args,tys⟩,ty,pos,after,guard⟩).run P w = .ok (.value v) w:=fun a w v hv=>by
  simp[execOp,resolve,invoke,builtin,hv]
 have sl:∀ (n:Nat) (el:TypeId),d = .slice el->(∀ (yv:Option Nat) (L:Loc) (F:Nat->Nat) (w:World) (y:Value),a6 yv L F w v y -> ∃ b c,y = .slice b n c)->K (a9 dst (.d (.int .i64 n))) ->
   ∃ ws,K ws/\Out P e h ⟨dst,.call ⟨.builtin .len,args,tys⟩,ty,pos,after,guard⟩ ws:=by
  intro n el hd hr hk;subst hd;refine⟨_,hk,bp (v:=.d (.int .i64 n)) (o:=⟨dst,.call ⟨.builtin .len,args,tys⟩,ty,pos,after,guard⟩) fun cx r' m L F st a w he hh hg=>?_⟩;obtain⟨b,c,cP⟩:=hr _ _ _ _ _ (hg.aM (aG he hv));exact⟨.int .i64 n,bA a w _ (by simp[Builtin.len_,LU,h0,run_underlying sw,cP,goInt]),rfl⟩
 split at hk
 ·rename_i el es dC
  rw[dC]at dt;exact sl es.length el (et dt.symm) (fun yv L F w y hr=>by obtain⟨b,n,c,rfl,rfl,_⟩:=hr;exact⟨b,c,rfl⟩) hk
 ·rename_i el dC
  rw[dC]at dt;exact sl 0 el (et dt.symm) (fun yv L F w y hr=>by have hr:y = .slice none 0 0:=hr;exact⟨none,0,hr⟩) hk
 ·rename_i el id sz off n dC
  rw[dC]at dt;exact sl n el (et dt.symm) (fun yv L F w y hr=>by obtain⟨b,c,rfl,_⟩:=hr;exact⟨b,c,rfl⟩) hk
 ·rename_i s dC
  rw[dC]at dt;have:=gT dt.symm;subst this;refine⟨_,hk,bp (v:=.d (.int .i64 s.size)) (o:=⟨dst,.call ⟨.builtin .len,args,tys⟩,ty,pos,after,guard⟩) fun cx r' m L F st a w he hh hg=>?_⟩;have cP:=jH hg he hv;exact⟨.int .i64 s.size,bA a w _ (by simp[Builtin.len_,LU,h0,run_underlying sw,cP,goInt]),rfl⟩
 ·rename_i n el dC
  rw[dC]at dt;have:=eT dt.symm;subst this;refine⟨_,hk,bp (v:=.d (.int .i64 n)) (o:=⟨dst,.call ⟨.builtin .len,args,tys⟩,ty,pos,after,guard⟩) fun cx r' m L F st a w he hh hg=>?_⟩;exact⟨.int .i64 n,bA a w _ (by simp[Builtin.len_,LU,h0,run_underlying sw,goInt]),rfl⟩
 ·rename_i mk me id dC
  rw[dC]at dt;have:=qj dt.symm;subst this;split at hk;case h_2=>exact hk.elim
  rename_i cc dZ;refine⟨_,hk,bp (v:=.d (.int .i64 cc.length)) (o:=⟨dst,.call ⟨.builtin .len,args,tys⟩,ty,pos,after,guard⟩) fun cx r' m L F st a w he hh hg=>?_⟩;have cP:a.eval x = .map (some (L.ρ id)):=hg.aM (aG he hv);obtain⟨en,c,hb,hr,_⟩:=hg.heap.obj id _ (hh _ _ dZ);have hl:en.size=cc.length:=by simpa using bH.get hr
  exact⟨.int .i64 cc.length,bA a w _ (by simp[Builtin.len_,LU,h0,run_underlying sw,cP,getObj,Sem.run,hb,goInt,hl]),rfl⟩
 ·rename_i mk me cc dC
  rw[dC]at dt;have:=qj dt.symm;subst this;refine⟨_,hk,bp (v:=.d (.int .i64 cc.length)) (o:=⟨dst,.call ⟨.builtin .len,args,tys⟩,ty,pos,after,guard⟩) fun cx r' m L F st a w he hh hg=>?_⟩;obtain⟨b,en,c,cP,_,hb,hr⟩:=hg.aM (aG he hv);have hl:en.size=cc.length:=by simpa using bH.get hr
  exact⟨.int .i64 cc.length,bA a w _ (by simp[Builtin.len_,LU,h0,run_underlying sw,cP,getObj,Sem.run,hb,goInt,hl]),rfl⟩
 ·exact hk.elim
theorem aq.jZ{yv:Option Nat}{L L':Loc}{F:Nat->Nat}{w w':World}(tr:Tr F w F w'){id:Nat}(hL:∀ i,i≠id->L'.ρ i=L.ρ i/\L'.κ i=L.κ i){cs:List V}{l:List Value}(hf:¬ bF cs id)(h:aq yv L F w cs l):aq yv L' F w' cs l:=
 aq.mono tr cs l (fun i hi=>hL i (by rintro rfl;exact hf hi)) h
theorem uL{op:Op}{d:Nat}{c:Cells}(hf:¬ bF c.aU d)
  (hr:∀ {σ:Type} (cx:Cx σ) (r:Option Nat) (m:List Nat) (L:Loc) (F:Nat->Nat) (st:St σ) (a:Act) (w:World),cM e st.env->cM h st.heap->Good cx r m L F st a w ->
   ∃ (l:Array Value) (t:TypeId),(execOp a.eval ⟨some d,op,ty,pos,after,guard⟩).run P w = .ok (.value (.pointer (some ⟨w.heap.size,0,none⟩))) (w.alloc (.cells l t))/\aq cx.yv L F w c.aU l.toList) :
  Out P e h ⟨some d,op,ty,pos,after,guard⟩ [.new d (.box c),.set d (.ptr d 0)]:=by
 intro σ cx r m L F st a w he hh hg hd;obtain⟨l,t,bA,hl⟩:=hr cx r m L F st a w he hh hg;have tr:Tr F w F (w.alloc (.cells l t)):=Tr.alloc hg.heap.fresh _;have oz:=hg.new d 0 (.box c) (.cells l t) (hg.eh (hd d rfl)) ⟨l,t,(by show(w.alloc _).heap[if d=d then w.heap.size else L.ρ d]?=_;rw[if_pos rfl];exact heap_alloc_new w _),aq.jZ tr (fun i hi=>by simp[hi]) hf hl⟩;exact⟨_,_,_,bA,.inl rfl,_,F,oz.set (v:=.ptr d 0) (hd d rfl) (by show Value.pointer _=Value.pointer _;simp),tr⟩
theorem Df(hT:bj P T){t:TypeId}(hk:fo T e h dst (.alloc t) K):∃ ws,K ws/\Out P e h ⟨dst,.alloc t,ty,pos,after,guard⟩ ws:=by
 simp only[fo]at hk;split at hk;case h_2=>exact hk.elim
 rename_i ti d ht;split at hk;case h_3=>exact hk.elim
 ·rename_i hz
  obtain⟨hlen,hk⟩:=bK hk;obtain⟨i,de,hi,fV,_,_,_,_,_,AI⟩:=hT t ti ht;obtain⟨zv,C3,vt,_⟩:=AI _ hz;refine⟨_,hk,?_⟩;intro σ cx r m L F st a w he hh hg hd;have tr:Tr F w F (w.alloc (.cells zv.cells t)):=Tr.alloc hg.heap.fresh _;have oz:=hg.new d 0 (.tb t [.d .nilp,.d .nils]) (.cells zv.cells t) (hg.eh (hd d rfl)) ⟨zv.cells,(by show(w.alloc _).heap[if d=d then w.heap.size else L.ρ d]?=_;rw[if_pos rfl];exact heap_alloc_new w _),aq.inj.2 (hP (F:=F) vt)⟩;exact⟨.pointer (some ⟨w.heap.size,0,none⟩),_,_,by simp[execOp,Instr.alloc,zeroValue,typeInfo,hi,C3,newVar,newRow],.inl rfl,_,F,oz.set (v:=.ptr d 0) (hd d rfl) (by show Value.pointer _=Value.pointer _;simp),tr⟩
 rename_i z _ hz;obtain⟨hlen,hk⟩:=bK hk;obtain⟨i,de,hi,fV,_,_,_,_,_,AI⟩:=hT t ti ht;obtain⟨zv,C3,vt,_⟩:=AI z hz;refine⟨_,hk,uL (c:=.dd z) (ef z d) fun cx r m L F st a w he hh hg=>⟨zv.cells,t,?_,aq.inj.2 (hP vt)⟩⟩;simp[execOp,Instr.alloc,zeroValue,typeInfo,hi,C3,newVar,newRow]
theorem G9{t:TypeId}{x:Operand}(hk:fo T e h dst (.box t x) K):∃ ws,K ws/\Out P e h ⟨dst,.box t x,ty,pos,after,guard⟩ ws:=by
 simp only[fo]at hk;split at hk;case h_2=>exact hk.elim
 rename_i v d hv;obtain⟨hc,hk⟩:=bK hk;simp only[Bool.and_eq_true]at hc;refine⟨_,hk,uL (zZ hc.2) fun cx r m L F st a w he hh hg=>⟨(a.eval x).cells,t,?_,(hg.aM (aG he hv)).cells hc.1⟩⟩;simp[execOp,Instr.box,newVar,newRow]
end
end Go.PX
namespace Go.PX
open Go.RowKit
section
variable {yv : Option Nat} {L : Loc} {F : Nat -> Nat} {w : World}
theorem a6.oS{a:V}{v:Value}(h:a6 yv L F w a v):aq yv L F w a.cells.aU v.cells.toList:=by
 by_cases hs:a.cells.ok=true
 ·exact h.cells hs
 ·cases a with
  | d x=>
   cases x with
   | agg cs=>
    obtain⟨l,rfl,hl⟩:=h;exact aq.inj.2 hl
   | tup cs=>
    obtain⟨l,rfl,hl⟩:=h;exact⟨.tuple l,[],rfl,⟨l,rfl,hl⟩,rfl⟩
   | _=>exact absurd rfl hs
  | agg cs=>
   obtain⟨l,rfl,hl⟩:=h;exact hl
  | tup cs=>
   obtain⟨l,rfl,hl⟩:=h;exact⟨.tuple l,[],rfl,⟨l,rfl,hl⟩,rfl⟩
  | _=>exact absurd rfl hs
theorem Cells.mB(c:Cells)(off:Nat)(x:Cells):(c.gq off x).aU=c.aU.take off++x.aU++c.aU.drop (off+x.aU.length):=by
 cases c<;>cases x<;>simp[Cells.gq,Cells.aU,md,uj,uh,dI]
theorem kU{α:Type}{cs l:List α}{off i:Nat}(h:off<=cs.length)(h1:off<=i)(h2:i<off+l.length):(cs.take off++l++cs.drop (off+l.length))[i]?=l[i-off]?:=by
 rw[List.append_assoc,List.getElem?_append_right (by simp;omega),List.getElem?_append_left (by simp;omega)];simp[Nat.min_eq_left h]
theorem kc{α:Type}{cs l:List α}{off i:Nat}(h:off+l.length<=cs.length)(h1:i<off\/off+l.length<=i):(cs.take off++l++cs.drop (off+l.length))[i]?=cs[i]?:=by
 rcases h1 with h1|h1
 ·rw[List.append_assoc,List.getElem?_append_left (by simp;omega),List.getElem?_take_of_lt h1]
 ·rw[List.getElem?_append_right (by simp;omega),List.getElem?_drop]
  congr 1
  simp;omega
theorem fH{α:Type}{cs l:List α}{off:Nat}(h:off+l.length<=cs.length):(cs.take off++l++cs.drop (off+l.length)).length=cs.length:=by
 simp;omega
theorem aq.gq{cs ds:List V}{l k:List Value}(off:Nat)(h:aq yv L F w cs l)(g:aq yv L F w ds k) :
  aq yv L F w (cs.take off++ds++cs.drop (off+ds.length)) (l.take off++k++l.drop (off+k.length)):=by
 have:=g.length;rw[this];exact((h.take off).append g).append (h.drop _)
theorem aC.D2(x:Cells)(c:aC):(c.cons x).aU=x.aU::c.aU:=by
 cases x<;>cases c<;>rfl
theorem pV{n:Nat}:∀ {l:List (Nat×V)} {i:Nat} {es:aC},pU n i l=some es->es.aU=l.map (fun p=>p.2.cells.aU)/\l.map (·.1)=List.range' i l.length /\ ∀ p∈l,p.2.cells.aU.length=n
 | [],i,es,h=>by simp only[pU,Option.some.injEq]at h;subst h;simp[aC.aU,aO]
 | (j,v)::r,i,es,h=>by
  simp only[pU]at h;split at h;case h_2=>cases h
  rename_i vg hj hn hr;cases h;have hj:=dc hj;have hn:=dc hn;rw[Cells.gU]at hn;obtain⟨h1,h2,h3⟩:=pV hr;refine⟨by rw[aC.D2,h1];rfl,by simp[h2,hj,List.range'_succ],fun p hp=>?_⟩;rcases List.mem_cons.1 hp with rfl|hp
  ·exact hn
  ·exact h3 p hp
theorem tK{sz:Nat}:∀ {xs:List V} {vs:List Value},aq yv L F w xs vs->(∀ x∈xs,x.cells.aU.length=sz)->aq yv L F w (xs.flatMap (·.cells.aU)) (vs.flatMap fun v=>v.cells.toList) /\ ∀ v∈vs,v.cells.size=sz
 | [],vs,h,_=>by
  have:vs = []:=h;subst this;exact⟨rfl,by simp⟩
 | x::xs,vs,h,hs=>by
  obtain⟨v,l,rfl,hx,hl⟩:=h;obtain⟨h1,h2⟩:=tK hl fun y hy=>hs y (List.mem_cons_of_mem _ hy);refine⟨by simpa using hx.oS.append h1,fun u hu=>?_⟩;rcases List.mem_cons.1 hu with rfl|hu
  ·have:=hx.oS.length
   rw[hs x (List.mem_cons_self ..)]at this;simpa using this
  ·exact h2 u hu
theorem rf{n:Nat}:∀ {l:List (List V)},nZ n l=true -> ∀ e∈l,e.length=n/\cb e=true
 | [],_,_,he=>by cases he
 | x::r,h,e,he=>by
  simp only[nZ]at h;split at h;case h_2=>cases h
  rename_i h1 h2;rcases List.mem_cons.1 he with rfl|he
  ·exact⟨dc h1,h2⟩
  ·exact rf h e he
theorem wm{n:Nat}:∀ {l:List (List D)},mg n l=true->nZ n (aO l)=true
 | [],_=>rfl
 | x::r,h=>by
  simp only[mg]at h;split at h;case h_2=>cases h
  rename_i h1 h2;simp only[aO,nZ,dI,h1,kI,h2];exact wm h
theorem w9{n:Nat}{es:aC}(h:es.ok n=true):∀ e∈es.aU,e.length=n/\cb e=true:=by
 cases es with
 | dd l=>exact rf (wm h)
 | vv l=>exact rf h
theorem ld:∀ {l m:List V},cb l=true->cb m=true->cb (l++m)=true
 | [],_,_,h=>h
 | x::r,m,h,k=>by
  simp only[cb,Bool.and_eq_true]at h;simp[cb,h.1,ld h.2 k]
theorem e9:∀ {l:List (List V)},(∀ e∈l,cb e=true)->cb l.flatten=true
 | [],_=>rfl
 | x::r,h=>by
  rw[List.flatten_cons];exact ld (h x (List.mem_cons_self ..)) (e9 fun e he=>h e (List.mem_cons_of_mem _ he))
end
section
variable {P : Program} {T : dM} {e : Env} {h : av} {dst : Option Nat} {K : List Wr -> Prop} {ty : TypeId} {pos : String} {after : Array Edge} {guard : Option (Nat × Bool)}
theorem kC{σ:Type}{cx:Cx σ}{r:Option Nat}{m:List Nat}{L:Loc}{F:Nat->Nat}{st:St σ}{a:Act}{w:World}(hg:Good cx r m L F st a w)(he:cM e st.env):∀ {ps:List (Nat×Operand)} {l:List (Nat×V)},partsOf e ps=some l ->
  l.map (·.1)=ps.map (·.1)/\aq cx.yv L F w (l.map (·.2)) (ps.map fun p=>a.eval p.2)
 | [],l,hp=>by simp only[partsOf,Option.some.injEq]at hp;subst hp;exact⟨rfl,rfl⟩
 | (i,x)::r,l,hp=>by
  simp only[partsOf]at hp;split at hp
  ·rename_i v l' hv hl
   cases hp;obtain⟨h1,h2⟩:=kC hg he hl;exact⟨by simp[h1],_,_,rfl,hg.aM (aG he hv),h2⟩
  ·cases hp
theorem jC(hT:bj P T){t:TypeId}{ei:oQ}(h:ff T t=some ei):∃ el,P.underlying t=some (.slice el)/\T.get el=some ei:=by
 unfold ff at h;split at h;case h_2=>cases h
 rename_i ti fL;split at h;case h_2=>cases h
 rename_i el hk;obtain⟨d,hu,dt⟩:=eb hT fL;rw[hk]at dt;exact⟨el,by rw[hu,et dt.symm],h⟩
theorem pT(hT:bj P T){el:TypeId}{ei:oQ}(iB:T.get el=some ei)(h:l4 ei=true) :
  ∃ i z,P.info? el=some i/\i.zero=some z/\0<ei.size/\0<ei.bytes/\ei.size=i.size/\ei.bytes=i.bytes/\z.cells.size=i.size:=by
 obtain⟨i,d,hi,hd,cU,Bz,_,_,_,hz⟩:=hT el ei iB;simp only[l4,Bool.and_eq_true]at h;obtain⟨⟨h1,h2⟩,h3⟩:=h;unfold Bh at h3;split at h3;case h_2=>cases h3
 rename_i z AI;obtain⟨zv,C3,vt,_⟩:=hz z AI;have hl:=(hP (F:=fun _=>0) (w:=default) vt).length;have h1:=uB h1;have h2:=uB h2;have h3:=dc h3;exact⟨i,zv,hi,C3,by omega,by omega,cU,Bz,by rw[<- cU,<- h3,<- hl];simp⟩
theorem uJ(hT:bj P T){t:TypeId}{n:Nat}{ps:Array (Nat×Operand)}(hk:fo T e h dst (.buildSlice t n ps) K):∃ ws,K ws/\Out P e h ⟨dst,.buildSlice t n ps,ty,pos,after,guard⟩ ws:=by
 simp only[fo]at hk;split at hk;case h_2=>exact hk.elim
 rename_i l ei d hl hs;obtain⟨hc,hk⟩:=bK hk;simp only[Bool.and_eq_true]at hc;obtain⟨⟨rR,e7⟩,jL⟩:=hc;have rR:=dc rR;have jL:=lg jL;split at hk;case h_2=>exact hk.elim
 rename_i es mQ;obtain⟨hc,hk⟩:=bK hk;simp only[Bool.and_eq_true]at hc;obtain⟨O6,dB⟩:=hc;obtain⟨el,hu,iB⟩:=jC hT hs;obtain⟨ie,z,kS,Qh,cU,Bz,ea,o7,H9⟩:=pT hT iB e7;obtain⟨JP,JQ,IQ⟩:=pV mQ;have Sr:=w9 O6;refine⟨_,hk,?_⟩;intro σ cx r m L F st a w he hh hg hd;obtain⟨zO,LH⟩:=kC hg he hl
 let vs:=ps.toList.map fun p=>a.eval p.2
 have sV:ps.toList.length=n:=by
  have:=congrArg List.length zO;simp only[List.length_map]at this;omega
 have BL:vs.length=n:=by simpa[vs]using sV
 have vn:∀ x∈l.map (·.2),x.cells.aU.length=ei.size:=by
  intro x hx;obtain⟨p,hp,rfl⟩:=List.mem_map.1 hx;exact IQ _ hp
 obtain⟨rP,H7⟩:=tK LH vn;have ub:(ps.map fun(i,x)=>(i,a.eval x)).toList=(vs.zipIdx 0).map fun x=>(x.2,x.1):=by
  have h1:ps.toList.map (·.1)=List.range' 0 n:=by rw[<- zO,JQ,rR]
  apply List.ext_getElem?;intro k;simp only[Array.toList_map,List.getElem?_map,List.getElem?_zipIdx,vs]
  cases hk:ps.toList[k]? with
  | none=>simp
  | some p=>
   have h2:(ps.toList.map (·.1))[k]?=some p.1:=by simp[List.getElem?_map,hk]
   have Ni:k<n:=by
    have:=(List.getElem?_eq_some_iff.1 hk).1;omega
   rw[h1,List.getElem?_range' Ni]at h2;simp at h2;simp[h2]
 let cells:Array Value:=(vs.flatMap fun v=>v.cells.toList).toArray
 have Rr:(l.map (·.2)).flatMap (·.cells.aU)=es.aU.flatten:=by rw[JP,List.flatMap_def,List.map_map];rfl
 have sn:es.aU.length=n:=by rw[JP];simp[rR]
 have fY:cJ ei.size es.aU:=fun e he=>(Sr e he).1;have o8:cells.size=n*ei.size:=by
  have h1:=rP.length;rw[Rr,iL fY,sn]at h1;simpa[cells,vs]using h1
 have bA:(execOp a.eval ⟨some d,.buildSlice t n ps,ty,pos,after,guard⟩).run P w = .ok (.value (.slice (some ⟨w.heap.size,0,none⟩) n n)) (w.alloc (.cells cells el)):=by
  have:(Instr.buildSlice t n (ps.map fun(i,x)=>(i,a.eval x))).run P w = .ok (.slice (some ⟨w.heap.size,0,none⟩) n n) (w.alloc (.cells cells el)):=by
   rcases Nat.eq_zero_or_pos n with h0|h0
   ·subst h0
    have RG:vs = []:=List.length_eq_zero_iff.1 BL;have GN:ps = #[]:=by simpa using sV
    subst GN;have K7:cells = #[]:=by simp[cells,RG]
    rw[K7];simp[Instr.buildSlice,run_underlying hu,sizeOf,typeInfo,kS,Instr.fill,newRow]
    congr 2
    apply Array.eq_empty_of_size_eq_zero;simp
   ·refine run_buildSlice w t el n _ cells ie z hu kS Qh (by rw[<- ea];omega) (by rw[<- ea];exact Nat.ne_of_gt (Nat.mul_pos h0 cU)) ?_
    rw[ub,<- ea];refine Great.fill_whole cU vs _ H7 ?_;simp[BL]
  simp[execOp,this]
 have tr:Tr F w F (w.alloc (.cells cells el)):=Tr.alloc hg.heap.fresh _;have oz:=hg.new d cells.size (.arr ei.size es) (.cells cells el) (hg.eh (hd d rfl)) ⟨cU,fY,.inr ⟨cells,el,(by show(w.alloc _).heap[if d=d then w.heap.size else L.ρ d]?=_;rw[if_pos rfl];exact heap_alloc_new w _),(by simp),(by rw[sn,o8];exact Nat.le_refl _),(by
  rw[sn,<- o8];have:cells.toList.take cells.size=cells.toList:=by rw[<- Array.length_toList,List.take_length]
  rw[this];refine aq.jZ (L:=L) tr (fun i hi=>by simp[hi]) (mZ dB) ?_;rw[<- Rr];simpa[cells,vs]using rP)⟩⟩
 refine⟨_,_,_,bA,.inl rfl,_,F,oz.set (v:=.sl d ei.size 0 n) (hd d rfl) ⟨_,_,rfl,Nat.le_refl _,cU,.inr ⟨(by simp),(by simp[o8])⟩⟩,tr⟩
theorem uT{yv:Option Nat}{L:Loc}{F:Nat->Nat}{w:World}{place:Nat->Option (Nat×Nat)}{fs:List (Nat×Nat)}(sV:∀ i p,fs[i]?=some p->place i=some p):∀ {l:List (Nat×V)} {vs:List Value} {cs MV:Cells} {cells:Array Value},
  jy fs cs l=some MV->aq yv L F w (l.map (·.2)) vs->aq yv L F w cs.aU cells.toList ->
  ∃ r,Instr.fill place cells ((l.map (·.1)).zip vs)=some r/\aq yv L F w MV.aU r.toList
 | [],vs,cs,MV,cells,h,hv,hc=>by
  simp only[jy,Option.some.injEq]at h;subst h;exact⟨cells,by simp[Instr.fill],hc⟩
 | (i,v)::r,vs,cs,MV,cells,h,hv,hc=>by
  simp only[jy]at h;obtain⟨x,Uc,rfl,hx,H7⟩:=hv;split at h;case h_2=>cases h
  rename_i off n hi;split at h;case h_2=>cases h
  rename_i BA Ap;have BA:=dc BA;have Ap:=lg Ap;rw[Cells.gU]at BA Ap;have AH:=hx.oS.length;have vn:=hc.length;have L9:x.cells.size=n:=by rw[<- BA,<- AH];simp
  obtain⟨g1,g2⟩:=Great.foldl_set off x.cells.toList 0 cells;simp only[Nat.add_zero]at g2;have yK:aq yv L F w (cs.gq off v.cells).aU ((x.cells.toList.zipIdx 0).foldl (fun cs (y:Value×Nat)=>cs.setIfInBounds (off+y.2) y.1) cells).toList:=by
   rw[Cells.mB];refine .jh ?_ fun k c hk=>?_
   ·rw[fH (by omega)]
    simp[g1]at vn ⊢;omega
   ·have fK:∀ y,(if off<=k/\k<off+x.cells.toList.length/\k<cells.size then x.cells.toList[k-off]? else cells[k]?)=some y ->
      ((x.cells.toList.zipIdx 0).foldl (fun cs (y:Value×Nat)=>cs.setIfInBounds (off+y.2) y.1) cells).toList[k]?=some y:=fun y hy=>by
     rw[<- g2 k]at hy;simpa using hy
    have o8:cells.size=cs.aU.length:=by simpa using vn
    by_cases iY:off<=k/\k<off+n
    ·rw[kU (by omega) iY.1 (by omega)]at hk
     obtain⟨y,hy,yI⟩:=aq.get _ hx.oS hk;refine⟨y,fK y ?_,yI⟩;rw[if_pos ⟨iY.1,by simp[L9];omega,by omega⟩];exact hy
    ·rw[kc (by omega) (by omega)]at hk
     obtain⟨y,hy,yI⟩:=aq.get _ hc hk;refine⟨y,fK y ?_,yI⟩;rw[if_neg (by simp[L9];omega)];simpa using hy
  obtain⟨res,yF,AF⟩:=uT sV h H7 yK;refine⟨res,?_,AF⟩;simp only[List.map_cons,List.zip_cons_cons];unfold Instr.fill;simp only[sV _ _ hi,L9];have o8:cells.size=cs.aU.length:=by simpa using vn
  rw[if_neg (by simp;omega),<- yF]
  congr 1
  rw[<- Array.foldl_toList,Array.toList_zipIdx]
theorem run_places(hT:bj P T){w:World}:∀ {fa:List Field} {sz:List (Nat×Nat)},qL T (fa.map fun f=>(f.offset,f.type))=some sz ->
  (fa.mapM fun f=>(do pure (f.offset,<- sizeOf f.type):Sem (Nat×Nat))).run P w = .ok sz w
 | [],sz,h=>by simp only[List.map_nil,qL,Option.some.injEq]at h;subst h;simp
 | f::fa,sz,h=>by
  simp only[List.map_cons,qL]at h;split at h
  ·rename_i i l hi hl
   cases h;have:=run_places hT (w:=w) hl;simp only[List.mapM_cons,Sem.run_bind,dK hT hi,Result.andThen_ok,Sem.run_pure,this]
  ·cases h
theorem a6.val{yv:Option Nat}{L:Loc}{F:Nat->Nat}{w:World}{c:Cells}{l:Array Value}(h:aq yv L F w c.aU l.toList):a6 yv L F w c.val (.agg l):=by
 cases c with
 | dd d=>exact⟨l,rfl,aq.inj.1 h⟩
 | vv d=>exact a6.qv h
theorem vK(size:Nat):∀ (n k i:Nat) (p:Nat×Nat),(tp size (k*size) n)[i]?=some p->some ((k+i)*size,size)=some p
 | 0,k,i,p,h=>by simp[tp]at h
 | n+1,k,0,p,h=>by simpa[tp]using h
 | n+1,k,i+1,p,h=>by
  have h:(tp size (k*size+size) n)[i]?=some p:=by simpa[tp]using h
  rw[show k*size+size=(k+1)*size by rw[Nat.add_mul,Nat.one_mul]]at h;have:=vK size n (k+1) i p h;rw[<- this];congr 3;omega
theorem parts_eval{ps:Array (Nat×Operand)}(a:Act){l:List (Nat×V)}(zO:l.map (·.1)=ps.toList.map (·.1)):(ps.map fun(i,x)=>(i,a.eval x)).toList=(l.map (·.1)).zip (ps.toList.map fun p=>a.eval p.2):=by
 rw[zO];simp only[Array.toList_map];generalize ps.toList=q
 induction q with
 | nil=>rfl
 | cons x q ih=>simp[ih]
theorem Dh(hT:bj P T){t:TypeId}{ps:Array (Nat×Operand)}(hk:fo T e h dst (.build t ps) K):∃ ws,K ws/\Out P e h ⟨dst,.build t ps,ty,pos,after,guard⟩ ws:=by
 simp only[fo]at hk;split at hk;case h_2=>exact hk.elim
 rename_i l ti hl fL;split at hk;case h_3=>exact hk.elim
 case h_2=>
  rename_i n el z dC hz;split at hk;case h_2=>exact hk.elim
  rename_i ei iB;split at hk;case h_2=>exact hk.elim
  rename_i cs hf;obtain⟨i,de,hi,fV,_,_,dt,_,_,AI⟩:=hT t ti fL;rw[dC]at dt;have:=eT dt.symm;subst this;obtain⟨Z,hZ,vt,_⟩:=AI z hz;refine⟨_,hk,bp (v:=cs.val) (o:=⟨dst,.build t ps,ty,pos,after,guard⟩) fun cx r m L F st a w he hh hg=>?_⟩;have BM:aq cx.yv L F w (Cells.dd z).aU Z.cells.toList:=aq.inj.2 (hP vt);obtain⟨zO,LH⟩:=kC hg he hl;obtain⟨res,hr,AF⟩:=uT (place:=fun i=>some (i*ei.size,ei.size)) (fun i p h=>by have:=vK ei.size n 0 i p (by rw[Nat.zero_mul];exact h);rw[Nat.zero_add]at this;exact this) hf LH BM;have ub:=parts_eval a zO;refine⟨.agg res,?_,a6.val AF⟩;have h3:(Instr.build t (ps.map fun(i,x)=>(i,a.eval x))).run P w = .ok (.agg res) w:=by
   unfold Instr.build;simp only[Sem.run_bind,zeroValue,typeInfo,run_program,hi,Result.andThen_ok,Sem.run_pure,hZ,run_underlying fV,dK hT iB];rw[ub,hr];simp
  simp[execOp,h3]
 rename_i fs z dC hz;split at hk;case h_2=>exact hk.elim
 rename_i sz cU;split at hk;case h_2=>exact hk.elim
 rename_i cs hf;obtain⟨i,de,hi,fV,_,_,dt,_,_,AI⟩:=hT t ti fL;rw[dC]at dt;obtain⟨fa,rfl,rfl,_⟩:=gA dt.symm;obtain⟨Z,hZ,vt,_⟩:=AI z hz;refine⟨_,hk,bp (v:=cs.val) (o:=⟨dst,.build t ps,ty,pos,after,guard⟩) fun cx r m L F st a w he hh hg=>?_⟩;have BM:aq cx.yv L F w (Cells.dd z).aU Z.cells.toList:=aq.inj.2 (hP vt);obtain⟨zO,LH⟩:=kC hg he hl;obtain⟨res,hr,AF⟩:=uT (place:=fun i=>sz[i]?) (fun _ _ h=>h) hf LH BM;have ub:=parts_eval a zO;have sV:=run_places hT (w:=w) cU;refine⟨.agg res,?_,a6.val AF⟩;have h2:(fa.mapM fun f=>(do pure (f.offset,<- sizeOf f.type):Sem (Nat×Nat))).run P w = .ok sz.toArray w:=by
  rw[Array.mapM_eq_mapM_toList];simp only[Sem.run_map,sV,Result.andThen_ok]
 have h3:(Instr.build t (ps.map fun(i,x)=>(i,a.eval x))).run P w = .ok (.agg res) w:=by
  unfold Instr.build;simp only[Sem.run_bind,zeroValue,typeInfo,run_program,hi,Result.andThen_ok,Sem.run_pure,hZ,run_underlying fV,h2];rw[ub];have:(fun(x:Nat)=>sz.toArray[x]?)=fun(i:Nat)=>sz[i]?:=by funext i;simp
  rw[this,hr];simp
 simp[execOp,h3]
theorem mw(hT:bj P T){w:World}{t:TypeId}{ti:oQ}(ht:T.get t=some ti){b off:Nat}{l:Array Value}{E:TypeId}(hl:w.heap[b]?=some (.cells l E (0,0))){v:Value}
  (hn:v.cells.size=ti.size) (ho:off+ti.size<=l.size) (h1:∀ u∈v.cells.toList,u.oneCell'=true) :
  (storeVar t ⟨b,off,none⟩ v).run P w = .ok () (w.setRow b (l.toList.take off++v.cells.toList++l.toList.drop (off+v.cells.toList.length)).toArray):=by
 have:=run_storeCells_at (P:=P) b off E v.cells.toList 0 l w hl (by simp[hn];omega) h1;simp only[Nat.add_zero,Array.length_toList,hn]at this;simp[storeVar,dK hT ht,hn,this]
theorem zt{α:Type}{sz:Nat}{es:List (List α)}(hl:cJ sz es){i:Nat}{e:List α}(hi:es[i]?=some e){x:List α}{o:Nat}(ho:o+x.length<=sz) :
  (es.set i (e.take o++x++e.drop (o+x.length))).flatten=es.flatten.take (i*sz+o)++x++es.flatten.drop (i*sz+o+x.length):=by
 induction es generalizing i with
 | nil=>simp at hi
 | cons f r ih=>
  have hf:=hl f (List.mem_cons_self ..)
  cases i with
  | zero=>
   simp at hi;subst hi;simp only[List.set_cons_zero,List.flatten_cons,Nat.zero_mul,Nat.zero_add];rw[List.take_append_of_le_length (by omega),List.drop_append_of_le_length (by omega)];simp
  | succ i=>
   simp only[List.set_cons_succ,List.flatten_cons];rw[ih (fun e he=>hl e (List.mem_cons_of_mem _ he)) (by simpa using hi)];have e1:(i+1)*sz+o=f.length+(i*sz+o):=by rw[Nat.succ_mul];omega
   have e2:(i+1)*sz+o+x.length=f.length+(i*sz+o+x.length):=by rw[Nat.succ_mul];omega
   rw[e2,e1,List.take_length_add_append,List.drop_length_add_append];simp
theorem sb{α:Type}{l Y:List α}{o n:Nat}(h:o+Y.length<=n)(hn:n<=l.length) :
  (l.take o++Y++l.drop (o+Y.length)).take n=(l.take n).take o++Y++(l.take n).drop (o+Y.length):=by
 have e1:(l.take n).length=n:=by rw[List.length_take];omega
 apply List.ext_getElem?;intro k;by_cases hk:k<n
 ·rw[List.getElem?_take_of_lt hk]
  by_cases iY:o<=k/\k<o+Y.length
  ·rw[kU (by omega) iY.1 iY.2,kU (by omega) iY.1 iY.2]
  ·rw[kc (by omega) (by omega),kc (by omega) (by omega),List.getElem?_take_of_lt hk]
 ·rw[List.getElem?_eq_none (by rw[List.length_take];omega),List.getElem?_eq_none (by rw[fH (by omega)];omega)]
theorem Gl(es:aC)(n:Nat)(x:Cells):(es.set n x).aU=es.aU.set n x.aU:=by
 cases es<;>cases x<;>simp[aC.set,aC.aU,Cells.aU,cB,List.map_set]
theorem Dn(hT:bj P T){t:TypeId}{x y:Operand}(hk:fo T e h dst (.store t x y) K):∃ ws,K ws/\Out P e h ⟨dst,.store t x y,ty,pos,after,guard⟩ ws:=by
 simp only[fo]at hk
 cases dst with
 | some d=>exact hk.elim
 | none=>
 simp only[Fz]at hk;split at hk;case h_2=>exact hk.elim
 rename_i u v ti hu hv ht;obtain⟨hc,hk⟩:=bK hk;simp only[Bool.and_eq_true]at hc;obtain⟨hlen,e7⟩:=hc;have hlen:=dc hlen;rw[Cells.gU]at hlen;split at hk
 ·rename_i id off hp
  split at hk;case h_3=>exact hk.elim
  ·rename_i cs FM
   obtain⟨hb,hk⟩:=bK hk;have hb:=lg hb;rw[Cells.gU]at hb;refine⟨_,hk,?_⟩;intro σ cx r m L F st a w he hh hg hd;unfold placeOf at hp;split at hp<;>cases hp
   have cP:a.eval x = .pointer (some ⟨L.ρ id,off,none⟩):=hg.aM (aG he hu);have yH:=(hg.aM (aG he hv)).oS;have BL:=yH.length;have h0:=hh _ _ FM;obtain⟨l,E,hl,hr⟩:=hg.heap.obj id _ h0;have CT:=hr.length;have kX:=mw hT (w:=w) ht hl (off:=off) (v:=a.eval y) (by rw[<- hlen,<- BL];simp) (by simp at CT;omega) (yH.one (by rw[<- Cells.ok_eq];exact e7));obtain⟨g1,g2⟩:=hg.obj (o:=.box (cs.gq off v.cells)) h0 trivial (w':=w.setRow (L.ρ id) (l.toList.take off++(a.eval y).cells.toList++l.toList.drop (off+(a.eval y).cells.toList.length)).toArray) rfl rfl rfl (size_setRow _ _ _) (fun b hb=>setRow_other _ _ _ _ hb)
    (by rw[hl];intro ds e;cases e) (by rw[hl];intro lp e;cases e)
    ⟨_,E,setRow_heap _ _ _ _ _ _ hl,by
     rw[Cells.mB];have tr:Tr F w F (w.setRow (L.ρ id) (l.toList.take off++(a.eval y).cells.toList++l.toList.drop (off+(a.eval y).cells.toList.length)).toArray):=
      .gV rfl rfl rfl (by simp) (fun _=>Nat.le_refl _) hg.heap.fresh fun b _ hF=>setRow_other _ _ _ _ (by rintro rfl;have:=(hg.heap.own id _ h0 trivial).1;omega)
     exact aq.mono tr _ _ (fun _ _=>⟨rfl,rfl⟩) (by simpa using aq.gq off hr yH)⟩
   exact⟨undef,_,.skip,by simp[execOp,Instr.storeAt,cP,Instr.sureAddr,kX],.inr ⟨rfl,rfl⟩,L,F,g1,g2⟩
  ·rename_i tt vl FM
   obtain⟨hb,hk⟩:=bK hk;have hb:=lg hb;refine⟨_,hk,?_⟩;intro σ cx r m L F st a w he hh hg hd;unfold placeOf at hp;split at hp<;>cases hp
   have cP:a.eval x = .pointer (some ⟨L.ρ id,off,none⟩):=hg.aM (aG he hu);have yH:=(hg.aM (aG he hv)).oS;have BL:=yH.length;have h0:=hh _ _ FM;obtain⟨l,hl,hr⟩:=hg.heap.obj id _ h0;have CT:=hr.length;have kX:=mw hT (w:=w) ht hl (off:=off) (v:=a.eval y) (by rw[<- hlen,<- BL];simp) (by simp at CT;omega) (yH.one (by rw[<- Cells.ok_eq];exact e7));obtain⟨g1,g2⟩:=hg.obj (o:=.tb tt ((Cells.vv vl).gq off v.cells).aU) h0 trivial (w':=w.setRow (L.ρ id) (l.toList.take off++(a.eval y).cells.toList++l.toList.drop (off+(a.eval y).cells.toList.length)).toArray) rfl rfl rfl (size_setRow _ _ _) (fun b hb=>setRow_other _ _ _ _ hb)
    (by rw[hl];intro ds e;cases e) (by rw[hl];intro lp e;cases e)
    ⟨_,setRow_heap _ _ _ _ _ _ hl,by
     rw[Cells.mB];show aq cx.yv L F _ (vl.take off++v.cells.aU++vl.drop (off+v.cells.aU.length)) _;have tr:Tr F w F (w.setRow (L.ρ id) (l.toList.take off++(a.eval y).cells.toList++l.toList.drop (off+(a.eval y).cells.toList.length)).toArray):=
      .gV rfl rfl rfl (by simp) (fun _=>Nat.le_refl _) hg.heap.fresh fun b _ hF=>setRow_other _ _ _ _ (by rintro rfl;have:=(hg.heap.own id _ h0 trivial).1;omega)
     exact aq.mono tr _ _ (fun _ _=>⟨rfl,rfl⟩) (by simpa using aq.gq off hr yH)⟩
   exact⟨undef,_,.skip,by simp[execOp,Instr.storeAt,cP,Instr.sureAddr,kX],.inr ⟨rfl,rfl⟩,L,F,g1,g2⟩
 ·rename_i id sz i off hp
  split at hk;case h_2=>exact hk.elim
  rename_i n es mQ;obtain⟨hn,fK⟩:=bK hk;have wa:=dc hn;clear hk hn;subst wa;obtain⟨c,IK,hk⟩:=yh fK;obtain⟨hb,hk⟩:=bK hk;have hb:=lg hb;rw[Cells.gU]at hb;refine⟨_,hk,?_⟩;intro σ cx r m L F st a w he hh hg hd;unfold placeOf at hp;split at hp<;>cases hp
  have cP:a.eval x = .pointer (some ⟨L.ρ id,i*n+off,none⟩):=hg.aM (aG he hu);have yH:=(hg.aM (aG he hv)).oS;have BL:=yH.length;have h0:=hh _ _ mQ;obtain⟨JV,fY,fe⟩:=hg.heap.obj id _ h0;rcases fe with⟨xo,_⟩|⟨l,E,hl,hκ,cU,hr⟩
  ·rw[xo]at IK;simp at IK
  have vn:c.aU.length=n:=fY _ (List.mem_of_getElem? IK);have FN:i<es.aU.length:=(List.getElem?_eq_some_iff.1 IK).1;have SI:i*n+n<=es.aU.length*n:=by rw[<- Nat.succ_mul];exact Nat.mul_le_mul_right _ FN
  have kO:aN L id (.arr n es):=by
   show L.κ id≠0;have:0<es.aU.length*n:=Nat.mul_pos (by omega) JV;omega
  have kX:=mw hT (w:=w) ht hl (off:=i*n+off) (v:=a.eval y) (by rw[<- hlen,<- BL];simp) (by omega) (yH.one (by rw[<- Cells.ok_eq];exact e7));have Qa:(a.eval y).cells.toList.length=ti.size:=by rw[BL,hlen]
  have GP:=fH (cs:=l.toList) (l:=(a.eval y).cells.toList) (off:=i*n+off) (by rw[Qa];simp;omega);generalize sR:(l.toList.take (i*n+off)++(a.eval y).cells.toList++l.toList.drop (i*n+off+(a.eval y).cells.toList.length)).toArray=c' at kX;have ce:c'.toList=l.toList.take (i*n+off)++(a.eval y).cells.toList++l.toList.drop (i*n+off+(a.eval y).cells.toList.length):=by rw[<- sR]
  have vo:c'.size=l.size:=by rw[<- ce]at GP;simpa using GP
  have tr:Tr F w F (w.setRow (L.ρ id) c'):=
   .gV rfl rfl rfl (by simp) (fun _=>Nat.le_refl _) hg.heap.fresh fun b _ hF=>setRow_other _ _ _ _ (by rintro rfl;have:=(hg.heap.own id _ h0 kO).1;omega)
  have mN:((es.set i (c.gq off v.cells)).aU)=es.aU.set i (c.aU.take off++v.cells.aU++c.aU.drop (off+v.cells.aU.length)):=by rw[Gl,Cells.mB]
  obtain⟨g1,g2⟩:=hg.obj (o:=.arr n (es.set i (c.gq off v.cells))) h0 kO (w':=w.setRow (L.ρ id) c') rfl rfl rfl (size_setRow _ _ _) (fun b hb=>setRow_other _ _ _ _ hb)
   (by rw[hl];intro ds e;cases e) (by rw[hl];intro lp e;cases e) (by
    refine⟨JV,?_,.inr ⟨c',E,setRow_heap _ _ _ _ _ _ hl,?_,?_,?_⟩⟩
    ·rw[mN]
     intro e he;rcases List.mem_or_eq_of_mem_set he with he|rfl
     ·exact fY e he
     ·rw[fH (by omega)];exact vn
    ·rw[vo,hκ]
    ·rw[mN,List.length_set,vo];exact cU
    ·rw[mN,List.length_set,zt fY IK (by omega),ce]
     refine aq.mono tr _ _ (fun _ _=>⟨rfl,rfl⟩) ?_;have h1:=aq.gq (i*n+off) hr yH;have e1:(l.toList.take (i*n+off)++(a.eval y).cells.toList++l.toList.drop (i*n+off+(a.eval y).cells.toList.length)).take (es.aU.length*n) =
       (l.toList.take (es.aU.length*n)).take (i*n+off)++(a.eval y).cells.toList++(l.toList.take (es.aU.length*n)).drop (i*n+off+(a.eval y).cells.toList.length):=by
      exact sb (by omega) (by simp;omega)
     rw[e1];exact h1)
  exact⟨undef,_,.skip,by simp[execOp,Instr.storeAt,cP,Instr.sureAddr,kX],.inr ⟨rfl,rfl⟩,L,F,g1,g2⟩
 ·exact hk.elim
end
end Go.PX
