import Derived.Test.YtmbefpmbnhdbpaaGreatDoorPxB
import Derived.Great.BuildSlice
set_option linter.all false
namespace Go.PX
open Go.RowKit
theorem fG(b off n:Nat):(⟨b,off,none⟩:Addr).add n=⟨b,off+n,none⟩:=by
 unfold Addr.add;split
 ·rename_i h;subst h;rfl
 ·rfl
theorem dm.get{F:Nat->Nat}{w:World}:∀ {cs:List D} {b off:Nat} (i:Nat) {c:D},dm F w b off cs->cs[i]?=some c->off+i<F b /\ ∃ x,w.cell? ⟨b,off+i,none⟩=some x/\bR F w c x
 | [],_,_,i,c,_,hi=>by simp at hi
 | d::r,b,off,0,c,h,hi=>by
  simp at hi;subst hi;exact⟨h.1,h.2.1⟩
 | d::r,b,off,i+1,c,h,hi=>by
  have:=dm.get i h.2.2 (by simpa using hi);simpa[Nat.add_assoc,Nat.add_comm 1 i]using this
theorem dm.lq{F:Nat->Nat}{w:World}:∀ {cs:List D} {b off:Nat},(∀ (i:Nat) (c:D),cs[i]?=some c->off+i<F b /\ ∃ x,w.cell? ⟨b,off+i,none⟩=some x/\bR F w c x)->dm F w b off cs
 | [],_,_,_=>trivial
 | c::r,b,off,h=>⟨(h 0 c (by simp)).1,(h 0 c (by simp)).2,dm.lq fun i d hd=>by
   have:=h (i+1) d (by simpa using hd);simpa[Nat.add_assoc,Nat.add_comm 1 i]using this⟩
theorem dm.drop{F:Nat->Nat}{w:World}{cs:List D}{b off:Nat}(n:Nat)(h:dm F w b off cs):dm F w b (off+n) (cs.drop n):=
 .lq fun i c hc=>by
  rw[List.getElem?_drop]at hc;simpa[Nat.add_assoc]using dm.get _ h hc
theorem dU.get{F:Nat->Nat}{w:World}:∀ {es:List (List D)} {b off sz:Nat} (i:Nat) {e:List D},dU F w b off sz es->es[i]?=some e->e.length=sz/\dm F w b (off+i*sz) e
 | [],_,_,_,i,c,_,hi=>by simp at hi
 | d::r,b,off,sz,0,c,h,hi=>by
  simp at hi;subst hi;exact⟨h.1,by simpa using h.2.1⟩
 | d::r,b,off,sz,i+1,c,h,hi=>by
  have:=dU.get i h.2.2 (by simpa using hi);refine⟨this.1,?_⟩;have e:off+(i+1)*sz=off+sz+i*sz:=by rw[Nat.succ_mul];omega
  rw[e];exact this.2
theorem dU.lq{F:Nat->Nat}{w:World}:∀ {es:List (List D)} {b off sz:Nat},(∀ (i:Nat) (e:List D),es[i]?=some e->e.length=sz/\dm F w b (off+i*sz) e)->dU F w b off sz es
 | [],_,_,_,_=>trivial
 | e::r,b,off,sz,h=>⟨(h 0 e (by simp)).1,by simpa using (h 0 e (by simp)).2,dU.lq fun i d hd=>by
   have:=h (i+1) d (by simpa using hd);have e:off+(i+1)*sz=off+sz+i*sz:=by rw[Nat.succ_mul];omega
   rw[e]at this;exact this⟩
theorem dU.take{F:Nat->Nat}{w:World}{es:List (List D)}{b off sz:Nat}(n:Nat)(h:dU F w b off sz es):dU F w b off sz (es.take n):=
 .lq fun i e he=>by
  rw[List.getElem?_take]at he;split at he
  ·exact dU.get i h he
  ·simp at he
theorem dU.drop{F:Nat->Nat}{w:World}{es:List (List D)}{b off sz:Nat}(n:Nat)(h:dU F w b off sz es):dU F w b (off+n*sz) sz (es.drop n):=
 .lq fun i e he=>by
  rw[List.getElem?_drop]at he;have:=dU.get _ h he;rw[Nat.add_mul,<- Nat.add_assoc]at this;exact this
theorem lM:∀ {l:List V} {ds:List D},xB l=some ds->l=inj ds
 | [],ds,h=>by simp[xB]at h;subst h;rfl
 | v::r,ds,h=>by
  cases v<;>simp only[xB]at h<;>first|(cases h;done)|skip
  rename_i d
  cases hr:xB r with
  | none=>simp[hr]at h
  | some l=>simp[hr]at h;subst h;simp[inj,lM hr]
section
variable {yv : Option Nat} {L : Loc} {F : Nat -> Nat} {w : World}
theorem br.sD{cs:List V}{l:Array Value}(h:aq yv L F w cs l.toList):br yv L F w (sD cs) (.agg l):=by
 unfold PX.sD;split
 ·rename_i ds hd
  rw[lM hd]at h;exact⟨l,rfl,aq.inj.1 h⟩
 ·exact⟨l,rfl,h⟩
theorem Cells.jR(c:Cells):c.len=c.bJ.length:=by
 cases c
 ·exact(eR _).symm
 ·rfl
theorem br.sub{c:Cells}{off n:Nat}{l:Array Value}(h:aq yv L F w ((c.bJ.drop off).take n) l.toList):br yv L F w (c.sub off n) (.agg l):=by
 cases c with
 | dd d=>
  refine⟨l,rfl,?_⟩;simp only[Cells.bJ,<- zq,<- zr]at h;exact aq.inj.1 h
 | vv d=>exact br.sD h
theorem US{c:Cells}{n:Nat}{K:V->Prop}(h:c.AP n K):∃ v,c.bJ[n]?=some v/\K v:=by
 cases c with
 | dd l=>
  obtain⟨v,hv,hk⟩:=o9 h;exact⟨.d v,by simp[Cells.bJ,xY,hv],hk⟩
 | vv l=>exact o9 h
theorem yZ{ti:sO}{c:Cells}{off:Nat}{K:V->Prop}(h:c.vz ti off K) :
  ∃ v,K v/\((ti.isAgg=true/\off+ti.size<=c.bJ.length/\v=c.sub off ti.size)\/(ti.isAgg=false/\c.bJ[off]?=some v)):=by
 unfold Cells.vz at h;split at h
 ·rename_i hA
  obtain⟨hb,hk⟩:=cr h;rw[Cells.jR]at hb;exact⟨_,hk,.inl ⟨hA,oh hb,rfl⟩⟩
 ·rename_i hA
  obtain⟨v,hv,hk⟩:=US h;exact⟨v,hk,.inr ⟨hA,hv⟩⟩
theorem yD{b off:Nat}:∀ {cs:List V} (n:Nat),n<=cs.length->(∀ (i:Nat) c,cs[i]?=some c -> ∃ v,w.cell? ⟨b,off+i,none⟩=some v/\br yv L F w c v) ->
  ∃ l:List Value,aq yv L F w (cs.take n) l /\ ∀ (j:Nat) v,l[j]?=some v->w.cell? ⟨b,off+j,none⟩=some v
 | cs,0,_,_=>⟨[],by simp[aq],by simp⟩
 | cs,n+1,hn,h=>by
  obtain⟨l,hl,hj⟩:=yD n (by omega) h;have dh:n<cs.length:=by omega
  obtain⟨v,hv,hr⟩:=h n cs[n] (by simp[dh]);have wV:l.length=n:=by have:=hl.length;simp at this;omega
  refine⟨l ++ [v],?_,?_⟩
  ·rw[List.take_succ_eq_append_getElem dh]
   exact hl.append ⟨v,[],rfl,hr,rfl⟩
  ·intro j u hu
   by_cases Lh:j<n
   ·rw[List.getElem?_append_left (by omega)]at hu
    exact hj j u hu
   ·rw[List.getElem?_append_right (by omega)]at hu
    have:j-l.length=0:=by
     rcases Nat.eq_zero_or_pos (j-l.length) with h0|h0
     ·exact h0
     ·rw[List.getElem?_eq_none (by simp;omega)]at hu;cases hu
    rw[this]at hu;simp at hu;subst hu;have:j=n:=by omega
    subst this;exact hv
theorem rr{P:Program}{T:fA}(hT:bA P T){t:TypeId}{ti:sO}(ht:T.get t=some ti){b off o:Nat}{c:Cells}{v:V}
  (hc:∀ (i:Nat) x,(c.bJ.drop o)[i]?=some x -> ∃ v,w.cell? ⟨b,off+i,none⟩=some v/\br yv L F w x v)
  (hv:(ti.isAgg=true/\o+ti.size<=c.bJ.length/\v=c.sub o ti.size)\/(ti.isAgg=false/\c.bJ[o]?=some v)) :
  ∃ x,(loadVar t ⟨b,off,none⟩).run P w = .ok x w/\br yv L F w v x:=by
 rcases hv with⟨hA,hn,rfl⟩|⟨hA,hv⟩
 ·obtain⟨l,hl,hj⟩:=yD ti.size (by simp;omega) hc
  have wV:l.length=ti.size:=by have:=hl.length;simp at this;omega
  have bZ:(loadCells ⟨b,off,none⟩ l.length).run P w = .ok l.toArray w:=
   run_loadCells_list (P:=P) w ⟨b,off,none⟩ l (fun j v hv=>by rw[fG];exact hj j v hv)
  rw[wV]at bZ;exact⟨.agg l.toArray,by simp[loadVar,mi hT ht,hA,fz hT ht,bZ],br.sub (by simpa using hl)⟩
 ·obtain⟨x,hx,hr⟩:=hc 0 v (by rw[List.getElem?_drop];exact hv)
  exact⟨x,by simp[loadVar,mi hT ht,hA]at hx ⊢;simp[hx],hr⟩
theorem wQ{α:Type}{sz:Nat}:∀ {es:List (List α)} {i j:Nat} {e:List α} {c:α},dE sz es->es[i]?=some e->e[j]?=some c->es.flatten[i*sz+j]?=some c
 | [],i,j,e,c,_,hi,_=>by simp at hi
 | f::es,0,j,e,c,h,hi,hj=>by
  simp at hi;subst hi;have:j<f.length:=(List.getElem?_eq_some_iff.1 hj).1;rw[List.flatten_cons,Nat.zero_mul,Nat.zero_add,List.getElem?_append_left this];exact hj
 | f::es,i+1,j,e,c,h,hi,hj=>by
  have hf:=h f (List.mem_cons_self ..);rw[List.flatten_cons,List.getElem?_append_right (by rw[Nat.succ_mul];omega)];have:(i+1)*sz+j-f.length=i*sz+j:=by rw[Nat.succ_mul];omega
  rw[this];exact wQ (fun e he=>h e (List.mem_cons_of_mem _ he)) (by simpa using hi) hj
theorem kI{α:Type}{sz:Nat}:∀ {es:List (List α)},dE sz es->es.flatten.length=es.length*sz
 | [],_=>by simp
 | f::es,h=>by
  rw[List.flatten_cons,List.length_append,kI (fun e he=>h e (List.mem_cons_of_mem _ he)),h f (List.mem_cons_self ..),List.length_cons,Nat.succ_mul];omega
theorem Ev{es:bx}{n:Nat}{K:Cells->Prop}(h:es.AP n K):∃ c,es.bJ[n]?=some c.bJ/\K c:=by
 cases es with
 | dd l=>
  obtain⟨v,hv,hk⟩:=o9 h;exact⟨.dd v,by simp[bx.bJ,cc,hv,Cells.bJ],hk⟩
 | vv l=>
  obtain⟨v,hv,hk⟩:=o9 h;exact⟨.vv v,by simp[bx.bJ,hv,Cells.bJ],hk⟩
theorem bU.LU{id:Nat}{c:Cells}(h:bU yv L F w id (.box c))(o:Nat):∀ (i:Nat) x,(c.bJ.drop o)[i]?=some x -> ∃ v,w.cell? ⟨L.ρ id,o+i,none⟩=some v/\br yv L F w x v:=by
 intro i x hx;obtain⟨l,T,hl,hr⟩:=h;rw[List.getElem?_drop]at hx;obtain⟨v,hv,E5⟩:=aq.get _ hr hx;exact⟨v,by rw[cell_of_row _ _ _ _ _ _ hl];simpa using hv,E5⟩
theorem bU.LK{id sz i:Nat}{es:bx}{c:Cells}(h:bU yv L F w id (.arr sz es))(hi:es.bJ[i]?=some c.bJ)(o:Nat) :
  ∀ (j:Nat) x,(c.bJ.drop o)[j]?=some x -> ∃ v,w.cell? ⟨L.ρ id,i*sz+o+j,none⟩=some v/\br yv L F w x v:=by
 intro j x hx;obtain⟨hs,hl,h⟩:=h;rw[List.getElem?_drop]at hx;rcases h with⟨he,_⟩|⟨l,T,lH,hk,hn,hr⟩
 ·rw[he]at hi;simp at hi
 ·have hg:=wQ hl hi hx
  obtain⟨v,hv,E5⟩:=aq.get _ hr hg;refine⟨v,?_,E5⟩;rw[cell_of_row _ _ _ _ _ _ lH,Nat.add_assoc];rw[List.getElem?_take]at hv;split at hv
  ·simpa using hv
  ·cases hv
end
section
variable {P : Program} {T : fA} {e : Env} {h : Heap} {dst : Option Nat} {K : List Wr -> Prop} {ty : TypeId} {pos : String} {after : Array Edge} {guard : Option (Nat × Bool)}
theorem Jb(hT:bA P T){t:TypeId}{x:Operand}{K:V->Prop}(hk:Fo T e h t x K) :
  ∃ v,K v /\ ∀ {σ:Type} (cx:Cx σ) (L:Loc) (F:Nat->Nat) (s:σ) (u:Value) (w:World) (hp:Heap),dR h hp->a7 cx L F hp s w->(∀ v,aR e x=some v->br cx.yv L F w v u) ->
   ∃ b off y,u = .pointer (some ⟨b,off,none⟩)/\(loadVar t ⟨b,off,none⟩).run P w = .ok y w/\br cx.yv L F w v y:=by
 unfold Fo at hk;split at hk
 ·exact hk.elim
 rename_i v hv;split at hk
 ·rename_i cs ti hp ht
  obtain⟨r,hr,hc⟩:=yZ hk;refine⟨r,hr,fun cx L F s u w J7 hs hg hu=>?_⟩;unfold placeOf at hp;split at hp<;>cases hp
  obtain⟨b,off,rfl,tJ⟩:=hu _ hv;obtain⟨y,hy,hr⟩:=rr (yv:=cx.yv) (L:=L) (F:=F) (w:=w) (b:=b) (off:=off) (o:=0) hT ht (fun i x hx=>by
   rw[List.drop_zero,Cells.bJ,xY]at hx
   cases rQ:cs[i]? with
   | none=>simp[rQ]at hx
   | some c=>
    simp[rQ]at hx;subst hx;exact(dm.get i tJ rQ).2) hc
  exact⟨b,off,y,rfl,hy,hr⟩
 ·rename_i id off ti hp ht
  have rd:∀ (cs:Cells),cs.vz ti off K->(∀ {yv:Option Nat} {L:Loc} {F:Nat->Nat} {w:World} {o:Obj},get h id=some o->bU yv L F w id o->bU yv L F w id (.box cs)) ->
    ∃ v,K v /\ ∀ {σ:Type} (cx:Cx σ) (L:Loc) (F:Nat->Nat) (s:σ) (u:Value) (w:World) (hp:Heap),dR h hp->a7 cx L F hp s w->(∀ v,aR e x=some v->br cx.yv L F w v u) ->
   ∃ b off y,u = .pointer (some ⟨b,off,none⟩)/\(loadVar t ⟨b,off,none⟩).run P w = .ok y w/\br cx.yv L F w v y:=by
   intro cs hk IQ;obtain⟨r,hr,hc⟩:=yZ hk;refine⟨r,hr,fun cx L F s u w J7 hs hg hu=>?_⟩;unfold placeOf at hp;split at hp<;>cases hp
   have hu:u = .pointer (some ⟨L.ρ id,off,none⟩):=hu _ hv;have ho:∃ o,get h id=some o/\bU cx.yv L F w id o:=by
    cases xW:get h id with
    | none=>exact absurd hk (by simp[xW]at *)
    | some o=>exact⟨o,rfl,hg.obj id _ (hs _ _ xW)⟩
   obtain⟨o,S7,ho2⟩:=ho;obtain⟨y,hy,hr⟩:=rr (yv:=cx.yv) (L:=L) (F:=F) (w:=w) (b:=L.ρ id) (off:=off) (o:=off) hT ht (bU.LU (IQ S7 ho2) off) hc;exact⟨_,_,y,hu,hy,hr⟩
  split at hk;case h_3=>exact hk.elim
  ·rename_i cs IQ
   exact rd cs hk fun ho hr=>by rw[IQ]at ho;cases ho;exact hr
  ·rename_i tt l IQ
   exact rd (.vv l) hk fun ho hr=>by
    rw[IQ]at ho;cases ho;obtain⟨c,hc,hr⟩:=hr;exact⟨c,_,hc,hr⟩
 ·rename_i id sz i off ti hp ht
  split at hk;case h_2=>exact hk.elim
  rename_i n es fP;obtain⟨hn,hk⟩:=cr hk;have hn:=eM hn;obtain⟨c,SJ,hk⟩:=Ev hk;obtain⟨r,hr,hc⟩:=yZ hk;refine⟨r,hr,fun cx L F s u w J7 hs hg hu=>?_⟩;unfold placeOf at hp;split at hp<;>cases hp
  have hu:u = .pointer (some ⟨L.ρ id,i*sz+off,none⟩):=hu _ hv;subst hn;obtain⟨y,hy,hr⟩:=rr (yv:=cx.yv) (L:=L) (F:=F) (w:=w) (b:=L.ρ id) (off:=i*n+off) (o:=off) hT ht (bU.LK (hg.obj id _ (hs _ _ fP)) SJ off) hc;exact⟨_,_,y,hu,hy,hr⟩
 ·exact hk.elim
theorem NF(hT:bA P T){t:TypeId}{x:Operand}(hk:gW T e h dst (.load t x) K):∃ ws,K ws/\Out P e h ⟨dst,.load t x,ty,pos,after,guard⟩ ws:=by
 simp only[gW]at hk;obtain⟨v,hv,hl⟩:=Jb (P:=P) hT hk;refine⟨_,hv,bM (o:=⟨dst,.load t x,ty,pos,after,guard⟩) fun cx r m L F st a w he hh hg=>?_⟩;obtain⟨b,off,y,hu,hy,hr⟩:=hl cx L F st.s (a.eval x) w st.heap hh hg.heap (fun v hv=>hg.aR (aF he hv));exact⟨y,by simp[execOp,Instr.loadAt,hu,Instr.sureAddr,hy],hr⟩
theorem Bu(hT:bA P T){t:TypeId}{i off:Nat}{fi:sO}(h:ug T t i=some (off,fi)) :
  ∃ (fa:Array Field) (f:Field),P.underlying t=some (.struct fa)/\fa[i]?=some f/\f.offset=off/\T.get f.type=some fi:=by
 unfold ug at h;split at h;case h_2=>cases h
 rename_i ti iC;split at h;case h_2=>cases h
 rename_i fs hk;split at h;case h_2=>cases h
 rename_i acp ft hi;split at h;case h_2=>cases h
 rename_i fi' Wx;cases h;obtain⟨ii,de,hii,ib,_,_,e8,_⟩:=hT t ti iC;rw[hk]at e8;obtain⟨fa,rfl,rfl,_⟩:=jw e8.symm;rw[List.getElem?_map]at hi
 cases hf:fa.toList[i]? with
 | none=>rw[hf]at hi;cases hi
 | some f=>
  rw[hf]at hi;cases hi;exact⟨fa,f,ib,by simpa using hf,rfl,Wx⟩
theorem B6{v:V}{p:Place}(hp:placeOf v=some p)(n:Nat){yv:Option Nat}{L:Loc}{F:Nat->Nat}{w:World}{u:Value}(hr:br yv L F w v u) :
  ∃ b off,u = .pointer (some ⟨b,off,none⟩)/\br yv L F w (p.add n) (.pointer (some ⟨b,off+n,none⟩)):=by
 unfold placeOf at hp;split at hp<;>cases hp
 ·obtain⟨b,off,rfl,tJ⟩:=hr
  exact⟨b,off,rfl,b,off+n,rfl,dm.drop n tJ⟩
 ·exact⟨_,_,hr,rfl⟩
 ·exact⟨_,_,hr,by show Value.pointer _=Value.pointer _;rw[Nat.add_assoc]⟩
theorem A8(hT:bA P T){t:TypeId}{x:Operand}{i:Nat}(hk:gW T e h dst (.fieldAddr t x i) K):∃ ws,K ws/\Out P e h ⟨dst,.fieldAddr t x i,ty,pos,after,guard⟩ ws:=by
 simp only[gW]at hk;split at hk;case h_2=>exact hk.elim
 rename_i v off fi hv hf;obtain⟨dD,hk⟩:=cr hk;have dD:=zO dD;split at hk;case h_2=>exact hk.elim
 rename_i p hp;obtain⟨fa,f,hu,Wx,rfl,hft⟩:=Bu hT hf;refine⟨_,hk,bM (o:=⟨dst,.fieldAddr t x i,ty,pos,after,guard⟩) fun cx r m L F st a w he hh hg=>?_⟩;obtain⟨b,o',dV,hr⟩:=B6 hp f.offset (hg.aR (aF he hv));exact⟨_,by simp[execOp,Instr.fieldAt,run_underlying hu,Wx,dV,Instr.sureAddr,fieldPlace,fz hT hft,dD,fG],hr⟩
theorem Ca(hT:bA P T){yv:Option Nat}{L:Loc}{F:Nat->Nat}{w:World}{t:TypeId}{ti:sO}(ht:T.get t=some ti){cs:Array Value}{c:Cells}{off:Nat}(hx:aq yv L F w c.bJ cs.toList){v:V}
  (hv:(ti.isAgg=true/\off+ti.size<=c.bJ.length/\v=c.sub off ti.size)\/(ti.isAgg=false/\c.bJ[off]?=some v)) :
  ∃ y,(part t cs off).run P w = .ok y w/\br yv L F w v y:=by
 rcases hv with⟨hA,hn,rfl⟩|⟨hA,hv⟩
 ·refine⟨.agg (cs.extract off (off+ti.size)),by simp[part,mi hT ht,hA,fz hT ht],br.sub ?_⟩
  have:(cs.extract off (off+ti.size)).toList=(cs.toList.drop off).take ti.size:=by simp[List.extract_eq_take_drop]
  rw[this];exact(hx.drop off).take _
 ·obtain⟨y,hy,hr⟩:=aq.get off hx hv
  have py:cs[off]?=some y:=by simpa using hy
  exact⟨y,by simp[part,mi hT ht,hA,py],hr⟩
theorem KI(hT:bA P T){t:TypeId}{x:Operand}{i:Nat}(hk:gW T e h dst (.field t x i) K):∃ ws,K ws/\Out P e h ⟨dst,.field t x i,ty,pos,after,guard⟩ ws:=by
 simp only[gW]at hk;have key:∀ (c:Cells) (off:Nat) (fi:sO) (u:V),aR e x=some u->ug T t i=some (off,fi)->(∀ (yv:Option Nat) (L:Loc) (F:Nat->Nat) (w:World) (y:Value),br yv L F w u y -> ∃ l:Array Value,y = .agg l/\aq yv L F w c.bJ l.toList) ->
   c.vz fi off (fun v=>K (bw dst v)) -> ∃ ws,K ws/\Out P e h ⟨dst,.field t x i,ty,pos,after,guard⟩ ws:=by
  intro c off fi u hu hf hr hk;obtain⟨v,hv,hc⟩:=yZ hk;obtain⟨fa,f,xJ,Wx,rfl,hft⟩:=Bu hT hf;refine⟨_,hv,bM (o:=⟨dst,.field t x i,ty,pos,after,guard⟩) fun cx r m L F st a w he hh hg=>?_⟩;obtain⟨l,hl,Pk⟩:=hr _ _ _ _ _ (hg.aR (aF he hu));obtain⟨y,hy,hr⟩:=Ca hT hft Pk hc;exact⟨y,by simp[execOp,Instr.field,run_underlying xJ,Wx,hl,asAgg,hy],hr⟩
 split at hk
 ·rename_i cs off fi hu hf
  exact key (.dd cs) off fi _ hu hf (fun yv L F w y hr=>by obtain⟨l,rfl,hl⟩:=hr;exact⟨l,rfl,aq.inj.2 hl⟩) hk
 ·rename_i cs off fi hu hf
  exact key (.vv cs) off fi _ hu hf (fun yv L F w y hr=>by obtain⟨l,rfl,hl⟩:=hr;exact⟨l,rfl,hl⟩) hk
 ·exact hk.elim
theorem OU{es:List (List D)}{i:Int}{K:List D->Prop}(h:Bp es i K):∃ l,0<=i/\es[i.toNat]?=some l/\K l:=by
 unfold Bp at h;split at h
 ·rename_i l h0 hl;exact⟨l,of_decide_eq_true h0,hl,h⟩
 ·exact h.elim
theorem fK(hT:bA P T){t:TypeId}{ti:sO}(ht:T.get t=some ti):∃ d,P.underlying t=some d/\ti.kd=kp d:=by
 obtain⟨i,d,hi,hd,_,_,hk,_⟩:=hT t ti ht;exact⟨d,hd,hk⟩
theorem A9(hT:bA P T){t:TypeId}{x i:Operand}(hk:gW T e h dst (.indexAddr t x i) K):∃ ws,K ws/\Out P e h ⟨dst,.indexAddr t x i,ty,pos,after,guard⟩ ws:=by
 simp only[gW]at hk;split at hk;case h_2=>exact hk.elim
 rename_i ti v k n ht hv hi;obtain⟨d,hu,e8⟩:=fK hT ht;split at hk
 ·rename_i el fx
  rw[fx]at e8;have:=fR e8.symm;subst this;split at hk;case h_2=>exact hk.elim
  rename_i ei kD;obtain⟨dD,hk⟩:=cr hk;have dD:=zO dD;split at hk
  ·rename_i es _
   obtain⟨l,xF,hl,hk⟩:=OU hk;obtain⟨wV,hk⟩:=cr hk;have wV:=eM wV;refine⟨_,hk,bM (o:=⟨dst,.indexAddr t x i,ty,pos,after,guard⟩) fun cx r m L F st a w he hh hg=>?_⟩;have Pf:=jM hg he hi;obtain⟨a0,len,cap,dV,hlen,j6,fP⟩:=hg.aR (aF he hv);obtain⟨b,off,sz,rfl,Ka,tJ⟩:=fP (by rintro rfl;simp at hl);obtain⟨hlz,aa9⟩:=dU.get n.toNat tJ hl;have Hh:sz=ei.size:=by omega
   have pq:n.toNat<es.length:=(List.getElem?_eq_some_iff.1 hl).1;refine⟨.pointer (some ⟨b,off+n.toNat*ei.size,none⟩),?_,b,_,rfl,Hh▸aa9⟩;have h1:(n:Int)<(len:Int):=by rw[hlen];omega
   simp[execOp,Instr.indexAt,Pf,asIntOf,run_underlying hu,dV,xF,h1,fz hT kD,fG]
  ·rename_i id sz off len _
   obtain⟨hn,hk⟩:=cr hk;simp only[Bool.and_eq_true,decide_eq_true_eq]at hn;obtain⟨Hh,hk⟩:=cr hk;have Hh:=eM Hh;refine⟨_,hk,bM (o:=⟨dst,.indexAddr t x i,ty,pos,after,guard⟩) fun cx r m L F st a w he hh hg=>?_⟩;have Pf:=jM hg he hi;obtain⟨a0,cap,dV,j6,Ka,hb⟩:=hg.aR (aF he hv);rcases hb with⟨h0,_⟩|⟨rfl,hb⟩
   ·omega
   refine⟨.pointer (some ⟨L.ρ id,off*sz+n.toNat*ei.size,none⟩),?_,?_⟩
   ·simp[execOp,Instr.indexAt,Pf,asIntOf,run_underlying hu,dV,hn.1,hn.2,fz hT kD,fG]
   ·show Value.pointer _=Value.pointer _
    rw[<- Hh,Nat.add_zero,Nat.add_mul]
  ·exact hk.elim
 ·rename_i len el fx
  rw[fx]at e8;have:=gA e8.symm;subst this;split at hk;case h_2=>exact hk.elim
  rename_i ei p kD hp;obtain⟨dD,hk⟩:=cr hk;have dD:=zO dD;obtain⟨hn,hk⟩:=cr hk;simp only[Bool.and_eq_true,decide_eq_true_eq]at hn;refine⟨_,hk,bM (o:=⟨dst,.indexAddr t x i,ty,pos,after,guard⟩) fun cx r m L F st a w he hh hg=>?_⟩;have Pf:=jM hg he hi;obtain⟨b,o',dV,hr⟩:=B6 hp (n.toNat*ei.size) (hg.aR (aF he hv));exact⟨_,by simp[execOp,Instr.indexAt,Pf,asIntOf,run_underlying hu,dV,Instr.sureAddr,hn.1,hn.2,fz hT kD,fG],hr⟩
 ·exact hk.elim
theorem KJ(hT:bA P T){t:TypeId}{x i:Operand}(hk:gW T e h dst (.index t x i) K):∃ ws,K ws/\Out P e h ⟨dst,.index t x i,ty,pos,after,guard⟩ ws:=by
 simp only[gW]at hk;split at hk;case h_2=>exact hk.elim
 rename_i ti v k n ht hv hi;obtain⟨d,hu,e8⟩:=fK hT ht;have key:∀ (c:Cells) (len:Nat) (el:TypeId) (ei:sO),d = .array len el->T.get el=some ei->0<=n/\n<len ->
   (∀ (yv:Option Nat) (L:Loc) (F:Nat->Nat) (w:World) (y:Value),br yv L F w v y -> ∃ l:Array Value,y = .agg l/\aq yv L F w c.bJ l.toList) ->
   c.vz ei (n.toNat*ei.size) (fun v=>K (bw dst v)) -> ∃ ws,K ws/\Out P e h ⟨dst,.index t x i,ty,pos,after,guard⟩ ws:=by
  intro c len el ei ib kD hn hr hk;subst ib;obtain⟨u,M7,hc⟩:=yZ hk;refine⟨_,M7,bM (o:=⟨dst,.index t x i,ty,pos,after,guard⟩) fun cx r m L F st a w he hh hg=>?_⟩;have Pf:=jM hg he hi;obtain⟨l,hl,Pk⟩:=hr _ _ _ _ _ (hg.aR (aF he hv));obtain⟨y,hy,hr⟩:=Ca hT kD Pk hc;exact⟨y,by simp[execOp,Instr.index,Pf,hl,asIntOf,run_underlying hu,hn.1,hn.2,fz hT kD,hy],hr⟩
 split at hk
 ·rename_i s fx
  rw[fx]at e8;have:=jQ e8.symm;subst this;obtain⟨hn,hk⟩:=cr hk;have hn:=of_decide_eq_true hn;obtain⟨b,hb,hk⟩:=o9 hk;refine⟨_,hk,bM (v:=.d (.int .u8 b.toNat)) (o:=⟨dst,.index t x i,ty,pos,after,guard⟩) fun cx r m L F st a w he hh hg=>?_⟩;have Pf:=jM hg he hi;have hxv:=mE hg he hv;have Pl:n.toNat<s.data.toList.length:=(List.getElem?_eq_some_iff.1 hb).1;have dh:n.toNat<s.size:=by simpa using Pl
  have lO:s[n.toNat]?=some b:=by
   rw[getElem?_pos s n.toNat dh];rw[List.getElem?_eq_getElem Pl]at hb;cases hb;rfl
  exact⟨.int .u8 b.toNat,by simp[execOp,Instr.index,Pf,hxv,asIntOf,run_underlying hu,hn,lO],rfl⟩
 ·rename_i len el cs fx
  rw[fx]at e8;split at hk;case h_2=>exact hk.elim
  rename_i ei kD;obtain⟨hn,hk⟩:=cr hk;simp only[Bool.and_eq_true,decide_eq_true_eq]at hn;exact key (.dd cs) len el ei (gA e8.symm) kD hn (fun yv L F w y hr=>by obtain⟨l,rfl,hl⟩:=hr;exact⟨l,rfl,aq.inj.2 hl⟩) hk
 ·rename_i len el cs fx
  rw[fx]at e8;split at hk;case h_2=>exact hk.elim
  rename_i ei kD;obtain⟨hn,hk⟩:=cr hk;simp only[Bool.and_eq_true,decide_eq_true_eq]at hn;exact key (.vv cs) len el ei (gA e8.symm) kD hn (fun yv L F w y hr=>by obtain⟨l,rfl,hl⟩:=hr;exact⟨l,rfl,hl⟩) hk
 ·exact hk.elim
end
section
variable {yv : Option Nat} {L : Loc} {F : Nat -> Nat} {w : World}
theorem bR.one{a:D}{v:Value}(h:bR F w a v)(hs:a.scalar=true):v.oneCell'=true:=by
 cases a<;>simp[D.scalar]at hs<;>simp only[bR]at h
 case bool=>subst h;rfl
 case int=>subst h;rfl
 case str=>subst h;rfl
 case vs=>obtain⟨a,len,cap,rfl,_⟩:=h;rfl
 case nils=>subst h;rfl
 case ref=>obtain⟨b,off,rfl,_⟩:=h;rfl
 case nilp=>subst h;rfl
 case mv=>obtain⟨r,en,c,rfl,_⟩:=h;rfl
 case nilm=>subst h;rfl
 case clo=>obtain⟨l,rfl,_⟩:=h;rfl
 case mth=>obtain⟨l,rfl,_⟩:=h;rfl
 case nilf=>subst h;rfl
 case ifc=>obtain⟨y,rfl,_⟩:=h;rfl
 case nili=>subst h;rfl
theorem br.one{a:V}{v:Value}(h:br yv L F w a v)(hs:a.scalar=true):v.oneCell'=true:=by
 cases a<;>simp[V.scalar]at hs<;>simp only[br]at h
 case d=>exact bR.one h hs
 case ptr=>subst h;rfl
 case ep=>subst h;rfl
 case sl=>obtain⟨a,cap,rfl,_⟩:=h;rfl
 case mp=>subst h;rfl
 case it=>subst h;rfl
 case clo=>obtain⟨l,rfl,_⟩:=h;rfl
 case yld=>obtain⟨l,_,rfl⟩:=h;rfl
 case unk=>exact h
theorem KB{v:Value}(h:v.oneCell'=true):v.cells.toList = [v]:=by
 cases v<;>simp_all[Value.oneCell',Value.cells]
theorem br.cells{a:V}{v:Value}(h:br yv L F w a v)(hs:a.cells.ok=true):aq yv L F w a.cells.bJ v.cells.toList:=by
 have key:a.scalar=true->a.cells.bJ = [a]->aq yv L F w a.cells.bJ v.cells.toList:=fun h1 h2=>by
  rw[h2,KB (h.one h1)];exact⟨v,[],rfl,h,rfl⟩
 cases a with
 | d x=>
  cases x with
  | agg cs=>
   obtain⟨l,rfl,hl⟩:=h;exact aq.inj.2 hl
  | tup cs=>simp[V.cells,Cells.ok,gr,D.scalar]at hs
  | _=>exact key rfl rfl
 | agg cs=>
  obtain⟨l,rfl,hl⟩:=h;exact hl
 | tup cs=>simp[V.cells,Cells.ok,dc,V.scalar]at hs
 | _=>exact key rfl rfl
theorem nQ:∀ (l:List D),dc (inj l)=gr l
 | []=>rfl
 | c::r=>by simp[inj,dc,gr,V.scalar,nQ r]
theorem Cells.ok_eq(c:Cells):c.ok=dc c.bJ:=by
 cases c
 ·exact(nQ _).symm
 ·rfl
theorem su:∀ {l:List V},dc l=true -> ∀ v∈l,v.scalar=true
 | [],_,v,hv=>by cases hv
 | x::r,h,v,hv=>by
  simp only[dc,Bool.and_eq_true]at h;rcases List.mem_cons.1 hv with rfl|hv
  ·exact h.1
  ·exact su h.2 v hv
theorem aq.one{cs:List V}{l:List Value}(h:aq yv L F w cs l)(hs:dc cs=true):∀ v∈l,v.oneCell'=true:=by
 intro v hv;obtain⟨i,hi,rfl⟩:=List.getElem_of_mem hv;have hlen:=h.length;have hc:cs[i]?=some cs[i]:=List.getElem?_eq_getElem (by omega);obtain⟨y,hy,hr⟩:=h.get i hc;rw[List.getElem?_eq_getElem hi]at hy;cases hy;exact hr.one (su hs _ (List.getElem_mem _))
theorem ke{v:Value}{z:List D}(h:zeroCells v=some z):bt F w z v.cells.toList:=by
 unfold zeroCells at h;have sc:∀ {d:D},mZ v=some d->v.cells.toList = [v]/\bR F w d v:=by
  intro d hd;refine⟨?_,nO hd⟩;unfold mZ at hd;split at hd<;>first|(cases hd;done)|rfl
 split at h
 ·rename_i l hl
  cases h;unfold ofConst at hl;split at hl
  ·rename_i cs
   cases hs:jz cs.toList with
   | none=>rw[hs]at hl;cases hl
   | some l'=>rw[hs]at hl;cases hl;exact lb hs
  ·rename_i cs
   split at hl
   ·cases hl
   ·cases hl
  ·unfold mZ at hl
   split at hl<;>cases hl
 ·cases h
 ·rename_i d h1 h2 hd
  cases h;unfold ofConst at hd;split at hd
  ·rename_i cs
   cases hs:jz cs.toList with
   | none=>rw[hs]at hd;cases hd
   | some l'=>rw[hs]at hd;cases hd;exact absurd rfl (h1 _)
  ·rename_i cs
   split at hd
   ·cases hd;exact absurd rfl (h2 _)
   ·cases hd
  ·obtain⟨e1,e2⟩:=sc hd
   rw[e1];exact⟨v,[],rfl,e2,rfl⟩
 ·cases h
end
section
variable {P : Program} {T : fA} {e : Env} {h : Heap} {dst : Option Nat} {K : List Wr -> Prop} {ty : TypeId} {pos : String} {after : Array Edge} {guard : Option (Nat × Bool)}
theorem Qd{fn:Fn}{first bc:Array Operand}(hk:TP e dst fn first.toList bc.toList K):∃ ws,K ws/\Out P e h ⟨dst,.makeFunc fn first bc,ty,pos,after,guard⟩ ws:=by
 generalize hf:first.toList=fl at hk
 generalize hc:bc.toList=cl at hk;unfold TP at hk;split at hk;case h_2=>exact hk.elim
 rename_i f x r;split at hk;case h_2=>exact hk.elim
 rename_i l hl;split at hk;case h_2=>exact hk.elim
 rename_i ds hd;have hc0:bc = #[]:=by simpa using hc
 subst hc0;refine⟨_,hk,bM (v:=.d (.mth f ds)) (o:=⟨dst,.makeFunc (.func f) first #[],ty,pos,after,guard⟩) fun cx r m L F st a w he hh hg=>⟨.func (.func f) (first.map a.eval) #[],by simp[execOp,Instr.makeFunc],_,rfl,?_⟩⟩;have:=hg.et (mg he hl);rw[lM hd,<- hf]at this;simpa using aq.inj.1 this
theorem Dt{fn:Fn}{first bc:Array Operand}(hk:gW T e h dst (.makeFunc fn first bc) K):∃ ws,K ws/\Out P e h ⟨dst,.makeFunc fn first bc,ty,pos,after,guard⟩ ws:=by
 simp only[gW]at hk;split at hk;case h_2=>exact Qd hk
 rename_i f l hf hl;have AJ:first = #[]:=by simpa using hf
 subst AJ;have run:∀ (a:Act) (w:World),(execOp a.eval ⟨dst,.makeFunc (.func f) #[] bc,ty,pos,after,guard⟩).run P w = .ok (.value (.func (.func f) #[] (bc.map a.eval))) w:=fun a w=>by
  simp[execOp,Instr.makeFunc]
 split at hk
 ·rename_i ds hd
  refine⟨_,hk,bM (v:=.d (.clo f ds)) (o:=⟨dst,.makeFunc (.func f) #[] bc,ty,pos,after,guard⟩) fun cx r m L F st a w he hh hg=>⟨_,run a w,_,rfl,?_⟩⟩;have:=hg.et (mg he hl);rw[lM hd]at this;simpa using aq.inj.1 this
 ·refine⟨_,hk,bM (v:=.clo f l) (o:=⟨dst,.makeFunc (.func f) #[] bc,ty,pos,after,guard⟩) fun cx r m L F st a w he hh hg=>⟨_,run a w,_,rfl,?_⟩⟩
  simpa using hg.et (mg he hl)
theorem u5{n:Nat}{lo hi:Option V}{K:Nat->Nat->Prop}(hk:wm n lo hi K) :
  ∃ l u,K l u/\l<=u/\u<=n /\ ∀ (cap:Nat) (Xu:Bool) (lv hv:Option Value) (w:World),n<=cap ->
   (∀ v,lo=some v -> ∃ x,lv=some x /\ ∀ k i,v = .d (.int k i)->x = .int k i)->(lo=none->lv=none)->(∀ v,hi=some v -> ∃ x,hv=some x /\ ∀ k i,v = .d (.int k i)->x = .int k i)->(hi=none->hv=none) ->
   (Instr.sliceBounds Xu n cap lv hv none).run P w = .ok (l,u,cap) w:=by
 unfold wm at hk;split at hk
 ·split at hk
  ·refine⟨_,_,hk,Nat.zero_le _,Nat.le_refl _,fun cap Xu lv hv w hc h1 h2 h3 h4=>?_⟩
   rw[h2 rfl,h4 rfl];simp[Instr.sliceBounds]
  ·rename_i k i
   obtain⟨hb,hk⟩:=cr hk;simp only[Bool.and_eq_true,decide_eq_true_eq]at hb;refine⟨_,_,hk,by omega,Nat.le_refl _,fun cap Xu lv hv w hc h1 h2 h3 h4=>?_⟩;obtain⟨x,rfl,hx⟩:=h1 _ rfl;rw[h4 rfl,hx _ _ rfl];simp[Instr.sliceBounds,Instr.sliceBound,asIntOf,hb.1,hb.2]
  ·exact hk.elim
 ·rename_i k i
  obtain⟨hb,hk⟩:=cr hk;simp only[Bool.and_eq_true,decide_eq_true_eq]at hb;split at hk
  ·refine⟨_,_,hk,Nat.zero_le _,by omega,fun cap Xu lv hv w hc h1 h2 h3 h4=>?_⟩
   obtain⟨x,rfl,hx⟩:=h3 _ rfl;rw[h2 rfl,hx _ _ rfl];have hic:i<=(cap:Int):=by omega
   simp[Instr.sliceBounds,Instr.sliceBound,asIntOf,hb.1,hic]
  ·rename_i k' j _
   obtain⟨lO,hk⟩:=cr hk;simp only[Bool.and_eq_true,decide_eq_true_eq]at lO;refine⟨_,_,hk,by omega,by omega,fun cap Xu lv hv w hc h1 h2 h3 h4=>?_⟩;obtain⟨x,rfl,hx⟩:=h3 _ rfl;obtain⟨y,rfl,hy⟩:=h1 _ rfl;rw[hx _ _ rfl,hy _ _ rfl];have hic:i<=(cap:Int):=by omega
   have h2:j<=max i 0:=by omega
   simp[Instr.sliceBounds,Instr.sliceBound,asIntOf,hb.1,hic,lO.1,h2]
  ·exact hk.elim
 ·exact hk.elim
theorem Jg{σ:Type}{cx:Cx σ}{r:Option Nat}{m:List Nat}{L:Loc}{F:Nat->Nat}{st:St σ}{a:Act}{w:World}(hg:Good cx r m L F st a w)(he:dR e st.env){x:Option Operand}{v:Option V}
  (hx:Fz e x=some v):(∀ u,v=some u -> ∃ y,x.map a.eval=some y/\br cx.yv L F w u y)/\(v=none->x.map a.eval=none):=by
 cases x with
 | none=>simp only[Fz,Option.some.injEq]at hx;subst hx;exact⟨(fun u hu=>by cases hu),fun _=>rfl⟩
 | some x=>
  simp only[Fz]at hx;split at hx
  ·rename_i u hu
   cases hx;exact⟨fun u' Ux=>by cases Ux;exact⟨_,rfl,hg.aR (aF he hu)⟩,fun h=>by cases h⟩
  ·cases hx
theorem KL(hT:bA P T){t:TypeId}{x:Operand}{lo hi mx:Option Operand}(hk:gW T e h dst (.slice t x lo hi mx) K):∃ ws,K ws/\Out P e h ⟨dst,.slice t x lo hi mx,ty,pos,after,guard⟩ ws:=by
 simp only[gW]at hk;split at hk
 ·exact hk.elim
 split at hk;case h_2=>exact hk.elim
 rename_i ti v l u ht hv hl hu;obtain⟨d,xJ,e8⟩:=fK hT ht;have OQ:∀ {σ:Type} {cx:Cx σ} {r:Option Nat} {m:List Nat} {L:Loc} {F:Nat->Nat} {st:St σ} {a:Act} {w:World},Good cx r m L F st a w->dR e st.env ->
   (∀ v,l=some v -> ∃ x,lo.map a.eval=some x /\ ∀ k i,v = .d (.int k i)->x = .int k i)/\(l=none->lo.map a.eval=none)/\(∀ v,u=some v -> ∃ x,hi.map a.eval=some x /\ ∀ k i,v = .d (.int k i)->x = .int k i)/\(u=none->hi.map a.eval=none):=by
  intro σ cx r m L F st a w hg he;obtain⟨h1,h2⟩:=Jg hg he hl;obtain⟨h3,h4⟩:=Jg hg he hu;refine⟨fun v hv=>?_,h2,fun v hv=>?_,h4⟩
  ·obtain⟨y,hy,hr⟩:=h1 v hv
   exact⟨y,hy,fun k i e=>by subst e;exact hr⟩
  ·obtain⟨y,hy,hr⟩:=h3 v hv
   exact⟨y,hy,fun k i e=>by subst e;exact hr⟩
 split at hk
 ·rename_i el es fx
  rw[fx]at e8;have:=fR e8.symm;subst this;obtain⟨p,q,hk,hpq,hqn,bZ⟩:=u5 (P:=P) hk;obtain⟨dD,hk⟩:=cr hk;refine⟨_,hk,bM (v:=.d (.vs ((es.take q).drop p))) (o:=⟨dst,.slice t x lo hi none,ty,pos,after,guard⟩) fun cx r m L F st a w he hh hg=>?_⟩;obtain⟨a0,len,cap,dV,hlen,j6,fP⟩:=hg.aR (aF he hv);obtain⟨b1,b2,b3,b4⟩:=OQ hg he;have hr:=bZ cap true _ _ w (by omega) b1 b2 b3 b4;rw[<- hlen]at hr;unfold Mf at dD;split at dD;case h_2=>cases dD
  rename_i ei kD;refine⟨.slice (if cap=p then a0 else a0.map (·.add (p*ei.size))) (q-p) (cap-p),?_,_,_,_,rfl,by simp;omega,by omega,fun er=>?_⟩
  ·simp[execOp,Instr.sliceAt,run_underlying xJ,Instr.slice,dV,hr,fz hT kD]
  have WV:es ≠ []:=by rintro rfl;simp at er
  obtain⟨b,off,sz,rfl,Ka,tJ⟩:=fP WV;have abc:sz=ei.size:=by
   cases es with
   | nil=>exact absurd rfl WV
   | cons f g=>exact tJ.1.symm.trans (eM dD)
  have rS:p<q:=by
   rcases Nat.lt_or_ge p q with h1|h1
   ·exact h1
   ·exact absurd (List.drop_eq_nil_of_le (by simp;omega)) er
  have:¬ cap=p:=by omega
  refine⟨b,off+p*sz,sz,?_,Ka,dU.drop p (dU.take q tJ)⟩;rw[if_neg this,<- abc];simp[fG]
 ·rename_i el id sz off len fx
  rw[fx]at e8;have:=fR e8.symm;subst this;obtain⟨p,q,hk,hpq,hqn,bZ⟩:=u5 (P:=P) hk;obtain⟨dD,hk⟩:=cr hk;refine⟨_,hk,bM (v:=.sl id sz (off+p) (q-p)) (o:=⟨dst,.slice t x lo hi none,ty,pos,after,guard⟩) fun cx r m L F st a w he hh hg=>?_⟩;obtain⟨a0,cap,dV,j6,Ka,hb⟩:=hg.aR (aF he hv);obtain⟨b1,b2,b3,b4⟩:=OQ hg he;have hr:=bZ cap true _ _ w (by omega) b1 b2 b3 b4;split at dD;case h_2=>cases dD
  rename_i ei kD;have dD:=eM dD;refine⟨.slice (if cap=p then a0 else a0.map (·.add (p*ei.size))) (q-p) (cap-p),?_,_,_,rfl,by omega,Ka,?_⟩
  ·simp[execOp,Instr.sliceAt,run_underlying xJ,Instr.slice,dV,hr,fz hT kD]
  rcases hb with⟨h0,h1⟩|⟨rfl,hb⟩
  ·exact .inl (by omega)
  ·by_cases SK:cap=p
   ·exact .inl (by omega)
   ·right
    rw[if_neg SK,<- dD];refine⟨by simp[fG,Nat.add_mul],?_⟩;have:off+p+(cap-p)=off+cap:=by omega
    rw[this];exact hb
 ·rename_i el fx
  rw[fx]at e8;have:=fR e8.symm;subst this;obtain⟨p,q,hk,hpq,hqn,bZ⟩:=u5 (P:=P) hk;obtain⟨dD,hk⟩:=cr hk;refine⟨_,hk,bM (v:=.d .nils) (o:=⟨dst,.slice t x lo hi none,ty,pos,after,guard⟩) fun cx r m L F st a w he hh hg=>?_⟩;have dV:a.eval x = .slice none 0 0:=hg.aR (aF he hv);obtain⟨b1,b2,b3,b4⟩:=OQ hg he;have hr:=bZ 0 true _ _ w (by omega) b1 b2 b3 b4;have E2:p=0:=by omega
  have hq0:q=0:=by omega
  subst E2 hq0;obtain⟨ii,dd,hii,C0,_⟩:=hT t ti ht;refine⟨.slice none 0 0,?_,rfl⟩;have dD:∃ n,(sizeOf el).run P w = .ok n w:=by
   split at dD
   ·rename_i ei kD;exact⟨_,fz hT kD⟩
   ·cases dD
  obtain⟨n,hn⟩:=dD;simp[execOp,Instr.sliceAt,run_underlying xJ,Instr.slice,dV,hr,hn]
 ·rename_i s fx
  rw[fx]at e8;have:=jQ e8.symm;subst this;obtain⟨p,q,hk,hpq,hqn,bZ⟩:=u5 (P:=P) hk;refine⟨_,hk,bM (v:=.d (.str (s.extract p q))) (o:=⟨dst,.slice t x lo hi none,ty,pos,after,guard⟩) fun cx r m L F st a w he hh hg=>?_⟩;have dV:=mE hg he hv;obtain⟨b1,b2,b3,b4⟩:=OQ hg he;have hr:=bZ s.size false _ _ w (Nat.le_refl _) b1 b2 b3 b4;exact⟨.string (s.extract p q),by simp[execOp,Instr.sliceAt,run_underlying xJ,Instr.slice,dV,hr],rfl⟩
 ·exact hk.elim
end
mutual
theorem P2{i:Nat}:∀ {v:V},sE i v=false->¬ iQ v i
 | .d _,_=>fun h=>h
 | .agg cs,h=>oD (l:=cs) h
 | .tup cs,h=>oD (l:=cs) h
 | .clo _ cs,h=>oD (l:=cs) h
 | .ptr j _,h=>fun e=>by have e:j=i:=e;subst e;simp[sE]at h
 | .ep j _ _ _,h=>fun e=>by have e:j=i:=e;subst e;simp[sE]at h
 | .sl j _ _ _,h=>fun e=>by have e:j=i:=e;subst e;simp[sE]at h
 | .mp j,h=>fun e=>by have e:j=i:=e;subst e;simp[sE]at h
 | .it j,h=>fun e=>by have e:j=i:=e;subst e;simp[sE]at h
 | .yld,_=>fun h=>h
 | .unk,_=>fun h=>h
theorem oD{i:Nat}:∀ {l:List V},eU i l=false->¬ cm l i
 | [],_=>fun h=>h
 | v::r,h=>by
  simp only[eU,Bool.or_eq_false_iff]at h;exact fun e=>e.elim (P2 h.1) (oD h.2)
end
theorem eG(l:List (List D)):(bg l).flatten=inj l.flatten:=by
 induction l with
 | nil=>rfl
 | cons x r ih=>simp[bg,ih,ji]
theorem GJ{i:Nat}{c:Cells}(h:c.free i=true):¬ cm c.bJ i:=by
 cases c with
 | dd l=>exact fL l i
 | vv l=>exact oD (by simpa[Cells.free,Cells.bJ]using h)
theorem qv{i:Nat}{c:bx}(h:c.free i=true):¬ cm c.bJ.flatten i:=by
 cases c with
 | dd l=>show ¬ cm (bg l).flatten i;rw[eG];exact fL _ i
 | vv l=>exact oD (by simpa[bx.free,bx.bJ]using h)
section
variable {P : Program} {T : fA} {e : Env} {h : Heap} {dst : Option Nat} {K : List Wr -> Prop} {ty : TypeId} {pos : String} {after : Array Edge} {guard : Option (Nat × Bool)}
theorem FY{F:Nat->Nat}{w:World}{yv:Option Nat}{L:Loc}:∀ {r:List V} {k:IntKind} {x:Int} {v:D} {l:List Value},Kx k x r=some v->aq yv L F w r l ->
  ∃ y,(l.foldlM Builtin.min2 (.int k x)).run P w = .ok y w/\bR F w v y
 | [],k,x,v,l,h,hl=>by
  simp only[Kx,Option.some.injEq]at h;subst h;have:l = []:=hl;subst this;exact⟨.int k x,by simp,rfl⟩
 | c::r,k,x,v,l,h,hl=>by
  obtain⟨y,l',rfl,hc,lH⟩:=hl
  cases c with
  | d c=>
   cases c<;>simp only[Kx]at h<;>first|(cases h;done)|skip
   rename_i k' b;have hc:y = .int k' b:=hc;subst hc;obtain⟨z,hz,Tj⟩:=FY h lH;refine⟨z,?_,Tj⟩;have:(if b<x then b else x)=min x b:=by simp only[Int.min_def];split<;>split<;>omega
   simp[Builtin.min2,this,hz]
  | _=>simp[Kx]at h
theorem FW{F:Nat->Nat}{w:World}{yv:Option Nat}{L:Loc}:∀ {r:List V} {k:IntKind} {x:Int} {v:D} {l:List Value},Kw k x r=some v->aq yv L F w r l ->
  ∃ y,(l.foldlM Builtin.max2 (.int k x)).run P w = .ok y w/\bR F w v y
 | [],k,x,v,l,h,hl=>by
  simp only[Kw,Option.some.injEq]at h;subst h;have:l = []:=hl;subst this;exact⟨.int k x,by simp,rfl⟩
 | c::r,k,x,v,l,h,hl=>by
  obtain⟨y,l',rfl,hc,lH⟩:=hl
  cases c with
  | d c=>
   cases c<;>simp only[Kw]at h<;>first|(cases h;done)|skip
   rename_i k' b;have hc:y = .int k' b:=hc;subst hc;obtain⟨z,hz,Tj⟩:=FW h lH;refine⟨z,?_,Tj⟩;have:(if x<b then b else x)=max x b:=by simp only[Int.max_def];split<;>split<;>omega
   simp[Builtin.max2,this,hz]
  | _=>simp[Kw]at h
theorem Qc{args:Array Operand}{tys:Array TypeId}(hk:fH T e h dst .min args tys K):∃ ws,K ws/\Out P e h ⟨dst,.call ⟨.builtin .min,args,tys⟩,ty,pos,after,guard⟩ ws:=by
 simp only[fH]at hk;split at hk;case h_2=>exact hk.elim
 rename_i k x r hr;split at hk;case h_2=>exact hk.elim
 rename_i v hm;refine⟨_,hk,bM (v:=.d v) (o:=⟨dst,.call ⟨.builtin .min,args,tys⟩,ty,pos,after,guard⟩) fun cx r' m L F st a w he hh hg=>?_⟩;obtain⟨y,l',dV,hy,lH⟩:=hg.et (mg he hr);have hy:y = .int k x:=hy;subst hy;obtain⟨z,hz,Tj⟩:=FY (P:=P) hm lH;have Rb:(args.map a.eval).toList = .int k x::l':=by simpa using dV
 have S2:(Builtin.min_ tys ty (args.map a.eval)).run P w = .ok z w:=by
  simp only[Builtin.min_,Rb];exact hz
 exact⟨z,by simp[execOp,resolve,invoke,builtin,S2],Tj⟩
theorem Qb{args:Array Operand}{tys:Array TypeId}(hk:fH T e h dst .max args tys K):∃ ws,K ws/\Out P e h ⟨dst,.call ⟨.builtin .max,args,tys⟩,ty,pos,after,guard⟩ ws:=by
 simp only[fH]at hk;split at hk;case h_2=>exact hk.elim
 rename_i k x r hr;split at hk;case h_2=>exact hk.elim
 rename_i v hm;refine⟨_,hk,bM (v:=.d v) (o:=⟨dst,.call ⟨.builtin .max,args,tys⟩,ty,pos,after,guard⟩) fun cx r' m L F st a w he hh hg=>?_⟩;obtain⟨y,l',dV,hy,lH⟩:=hg.et (mg he hr);have hy:y = .int k x:=hy;subst hy;obtain⟨z,hz,Tj⟩:=FW (P:=P) hm lH;have Rb:(args.map a.eval).toList = .int k x::l':=by simpa using dV
 have S2:(Builtin.max_ tys ty (args.map a.eval)).run P w = .ok z w:=by
  simp only[Builtin.max_,Rb];exact hz
 exact⟨z,by simp[execOp,resolve,invoke,builtin,S2],Tj⟩
theorem cf.at{F:Nat->Nat}{w:World}:∀ {cY:List (D×D)} {es:List MapEntry} {i:Nat} {e:MapEntry},cf F w cY es->es[i]?=some e -> ∃ k u,cY[i]?=some (k,u)/\bR F w k e.key/\bR F w u e.val
 | [],es,i,e,hr,h=>by
  have:es = []:=hr;subst this;simp at h
 | (k,u)::r,es,0,e,hr,h=>by
  obtain⟨x,l,rfl,h1,h2,_⟩:=hr;simp at h;subst h;exact⟨k,u,rfl,h1,h2⟩
 | (k,u)::r,es,i+1,e,hr,h=>by
  obtain⟨x,l,rfl,_,_,h3⟩:=hr;simpa using cf.at h3 (by simpa using h)
theorem cf.get{F:Nat->Nat}{w:World}:∀ {cY:List (D×D)} {es:List MapEntry},cf F w cY es->es.length=cY.length
 | [],es,h=>by rw[show es = [] from h];rfl
 | (k,v)::r,es,h=>by
  obtain⟨en,es',rfl,_,_,hr⟩:=h;simp[cf.get hr]
theorem Qa(hT:bA P T){args:Array Operand}{tys:Array TypeId}(hk:fH T e h dst .len args tys K):∃ ws,K ws/\Out P e h ⟨dst,.call ⟨.builtin .len,args,tys⟩,ty,pos,after,guard⟩ ws:=by
 simp only[fH]at hk;split at hk;case h_2=>exact hk.elim
 rename_i x t rest dM E8;split at hk;case h_2=>exact hk.elim
 rename_i ti v ht hv;obtain⟨d,xJ,e8⟩:=fK hT ht;have h0:∀ (a:Act),(args.map a.eval)[0]?=some (a.eval x):=by
  intro a;have:args[0]?=some x:=by
   have:args.toList[0]?=some x:=by rw[dM];rfl
   simpa using this
  simp[this]
 have Rn:tys[0]?=some t:=by
  have:tys.toList[0]?=some t:=by rw[E8];rfl
  simpa using this
 have bZ:∀ (a:Act) (w:World) v,(Builtin.len_ tys ty (args.map a.eval)).run P w = .ok v w->(execOp a.eval ⟨dst,.call ⟨.builtin .len,args,tys⟩,ty,pos,after,guard⟩).run P w = .ok (.value v) w:=fun a w v hv=>by
  simp[execOp,resolve,invoke,builtin,hv]
 have sl:∀ (n:Nat) (el:TypeId),d = .slice el->(∀ (yv:Option Nat) (L:Loc) (F:Nat->Nat) (w:World) (y:Value),br yv L F w v y -> ∃ b c,y = .slice b n c)->K (bw dst (.d (.int .i64 n))) ->
   ∃ ws,K ws/\Out P e h ⟨dst,.call ⟨.builtin .len,args,tys⟩,ty,pos,after,guard⟩ ws:=by
  intro n el hd hr hk;subst hd;refine⟨_,hk,bM (v:=.d (.int .i64 n)) (o:=⟨dst,.call ⟨.builtin .len,args,tys⟩,ty,pos,after,guard⟩) fun cx r' m L F st a w he hh hg=>?_⟩;obtain⟨b,c,dV⟩:=hr _ _ _ _ _ (hg.aR (aF he hv));exact⟨.int .i64 n,bZ a w _ (by simp[Builtin.len_,Rn,h0,run_underlying xJ,dV,goInt]),rfl⟩
 split at hk
 ·rename_i el es fx
  rw[fx]at e8;exact sl es.length el (fR e8.symm) (fun yv L F w y hr=>by obtain⟨b,n,c,rfl,rfl,_⟩:=hr;exact⟨b,c,rfl⟩) hk
 ·rename_i el fx
  rw[fx]at e8;exact sl 0 el (fR e8.symm) (fun yv L F w y hr=>by have hr:y = .slice none 0 0:=hr;exact⟨none,0,hr⟩) hk
 ·rename_i el id sz off n fx
  rw[fx]at e8;exact sl n el (fR e8.symm) (fun yv L F w y hr=>by obtain⟨b,c,rfl,_⟩:=hr;exact⟨b,c,rfl⟩) hk
 ·rename_i s fx
  rw[fx]at e8;have:=jQ e8.symm;subst this;refine⟨_,hk,bM (v:=.d (.int .i64 s.size)) (o:=⟨dst,.call ⟨.builtin .len,args,tys⟩,ty,pos,after,guard⟩) fun cx r' m L F st a w he hh hg=>?_⟩;have dV:=mE hg he hv;exact⟨.int .i64 s.size,bZ a w _ (by simp[Builtin.len_,Rn,h0,run_underlying xJ,dV,goInt]),rfl⟩
 ·rename_i n el fx
  rw[fx]at e8;have:=gA e8.symm;subst this;refine⟨_,hk,bM (v:=.d (.int .i64 n)) (o:=⟨dst,.call ⟨.builtin .len,args,tys⟩,ty,pos,after,guard⟩) fun cx r' m L F st a w he hh hg=>?_⟩;exact⟨.int .i64 n,bZ a w _ (by simp[Builtin.len_,Rn,h0,run_underlying xJ,goInt]),rfl⟩
 ·rename_i mk me id fx
  rw[fx]at e8;have:=uE e8.symm;subst this;split at hk;case h_2=>exact hk.elim
  rename_i cY hid;refine⟨_,hk,bM (v:=.d (.int .i64 cY.length)) (o:=⟨dst,.call ⟨.builtin .len,args,tys⟩,ty,pos,after,guard⟩) fun cx r' m L F st a w he hh hg=>?_⟩;have dV:a.eval x = .map (some (L.ρ id)):=hg.aR (aF he hv);obtain⟨en,c,hb,hr,_⟩:=hg.heap.obj id _ (hh _ _ hid);have hl:en.size=cY.length:=by simpa using cf.get hr
  exact⟨.int .i64 cY.length,bZ a w _ (by simp[Builtin.len_,Rn,h0,run_underlying xJ,dV,getObj,Sem.run,hb,goInt,hl]),rfl⟩
 ·rename_i mk me cY fx
  rw[fx]at e8;have:=uE e8.symm;subst this;refine⟨_,hk,bM (v:=.d (.int .i64 cY.length)) (o:=⟨dst,.call ⟨.builtin .len,args,tys⟩,ty,pos,after,guard⟩) fun cx r' m L F st a w he hh hg=>?_⟩;obtain⟨b,en,c,dV,_,hb,hr⟩:=hg.aR (aF he hv);have hl:en.size=cY.length:=by simpa using cf.get hr
  exact⟨.int .i64 cY.length,bZ a w _ (by simp[Builtin.len_,Rn,h0,run_underlying xJ,dV,getObj,Sem.run,hb,goInt,hl]),rfl⟩
 ·exact hk.elim
theorem aq.mY{yv:Option Nat}{L L':Loc}{F:Nat->Nat}{w w':World}(tr:Tr F w F w'){id:Nat}(hL:∀ i,i≠id->L'.ρ i=L.ρ i/\L'.κ i=L.κ i){cs:List V}{l:List Value}(hf:¬ cm cs id)(h:aq yv L F w cs l):aq yv L' F w' cs l:=
 aq.mono tr cs l (fun i hi=>hL i (by rintro rfl;exact hf hi)) h
theorem z7{op:Op}{d:Nat}{c:Cells}(hf:¬ cm c.bJ d)
  (hr:∀ {σ:Type} (cx:Cx σ) (r:Option Nat) (m:List Nat) (L:Loc) (F:Nat->Nat) (st:St σ) (a:Act) (w:World),dR e st.env->dR h st.heap->Good cx r m L F st a w ->
   ∃ (l:Array Value) (t:TypeId),(execOp a.eval ⟨some d,op,ty,pos,after,guard⟩).run P w = .ok (.value (.pointer (some ⟨w.heap.size,0,none⟩))) (w.alloc (.cells l t))/\aq cx.yv L F w c.bJ l.toList) :
  Out P e h ⟨some d,op,ty,pos,after,guard⟩ [.new d (.box c),.set d (.ptr d 0)]:=by
 intro σ cx r m L F st a w he hh hg hd;obtain⟨l,t,bZ,hl⟩:=hr cx r m L F st a w he hh hg;have tr:Tr F w F (w.alloc (.cells l t)):=Tr.alloc hg.heap.fresh _;have ux:=hg.new d 0 (.box c) (.cells l t) (hg.fN (hd d rfl)) ⟨l,t,(by show(w.alloc _).heap[if d=d then w.heap.size else L.ρ d]?=_;rw[if_pos rfl];exact heap_alloc_new w _),aq.mY tr (fun i hi=>by simp[hi]) hf hl⟩;exact⟨_,_,_,bZ,.inl rfl,_,F,ux.set (v:=.ptr d 0) (hd d rfl) (by show Value.pointer _=Value.pointer _;simp),tr⟩
theorem KE(hT:bA P T){t:TypeId}(hk:gW T e h dst (.alloc t) K):∃ ws,K ws/\Out P e h ⟨dst,.alloc t,ty,pos,after,guard⟩ ws:=by
 simp only[gW]at hk;split at hk;case h_2=>exact hk.elim
 rename_i ti d ht;split at hk;case h_3=>exact hk.elim
 ·rename_i hz
  obtain⟨hlen,hk⟩:=cr hk;obtain⟨i,de,hi,ib,_,_,_,_,_,Hk⟩:=hT t ti ht;obtain⟨zv,Ki,A5,_⟩:=Hk _ hz;refine⟨_,hk,?_⟩;intro σ cx r m L F st a w he hh hg hd;have tr:Tr F w F (w.alloc (.cells zv.cells t)):=Tr.alloc hg.heap.fresh _;have ux:=hg.new d 0 (.tb t [.d .nilp,.d .nils]) (.cells zv.cells t) (hg.fN (hd d rfl)) ⟨zv.cells,(by show(w.alloc _).heap[if d=d then w.heap.size else L.ρ d]?=_;rw[if_pos rfl];exact heap_alloc_new w _),aq.inj.2 (ke (F:=F) A5)⟩;exact⟨.pointer (some ⟨w.heap.size,0,none⟩),_,_,by simp[execOp,Instr.alloc,zeroValue,typeInfo,hi,Ki,newVar,newRow],.inl rfl,_,F,ux.set (v:=.ptr d 0) (hd d rfl) (by show Value.pointer _=Value.pointer _;simp),tr⟩
 rename_i z _ hz;obtain⟨hlen,hk⟩:=cr hk;obtain⟨i,de,hi,ib,_,_,_,_,_,Hk⟩:=hT t ti ht;obtain⟨zv,Ki,A5,_⟩:=Hk z hz;refine⟨_,hk,z7 (c:=.dd z) (fL z d) fun cx r m L F st a w he hh hg=>⟨zv.cells,t,?_,aq.inj.2 (ke A5)⟩⟩;simp[execOp,Instr.alloc,zeroValue,typeInfo,hi,Ki,newVar,newRow]
theorem P8{t:TypeId}{x:Operand}(hk:gW T e h dst (.box t x) K):∃ ws,K ws/\Out P e h ⟨dst,.box t x,ty,pos,after,guard⟩ ws:=by
 simp only[gW]at hk;split at hk;case h_2=>exact hk.elim
 rename_i v d hv;obtain⟨hc,hk⟩:=cr hk;simp only[Bool.and_eq_true]at hc;refine⟨_,hk,z7 (GJ hc.2) fun cx r m L F st a w he hh hg=>⟨(a.eval x).cells,t,?_,(hg.aR (aF he hv)).cells hc.1⟩⟩;simp[execOp,Instr.box,newVar,newRow]
end
end Go.PX
namespace Go.PX
open Go.RowKit
section
variable {yv : Option Nat} {L : Loc} {F : Nat -> Nat} {w : World}
theorem br.sS{a:V}{v:Value}(h:br yv L F w a v):aq yv L F w a.cells.bJ v.cells.toList:=by
 by_cases hs:a.cells.ok=true
 ·exact h.cells hs
 ·cases a with
  | d x=>
   cases x with
   | agg cs=>
    obtain⟨l,rfl,hl⟩:=h;exact aq.inj.2 hl
   | tup cs=>
    obtain⟨l,rfl,hl⟩:=h;exact⟨.tuple l,[],rfl,⟨l,rfl,hl⟩,rfl⟩
   | _=>exact absurd rfl hs
  | agg cs=>
   obtain⟨l,rfl,hl⟩:=h;exact hl
  | tup cs=>
   obtain⟨l,rfl,hl⟩:=h;exact⟨.tuple l,[],rfl,⟨l,rfl,hl⟩,rfl⟩
  | _=>exact absurd rfl hs
theorem Cells.pK(c:Cells)(off:Nat)(x:Cells):(c.jl off x).bJ=c.bJ.take off++x.bJ++c.bJ.drop (off+x.bJ.length):=by
 cases c<;>cases x<;>simp[Cells.jl,Cells.bJ,ji,zr,zq,eR]
theorem n9{α:Type}{cs l:List α}{off i:Nat}(h:off<=cs.length)(h1:off<=i)(h2:i<off+l.length):(cs.take off++l++cs.drop (off+l.length))[i]?=l[i-off]?:=by
 rw[List.append_assoc,List.getElem?_append_right (by simp;omega),List.getElem?_append_left (by simp;omega)];simp[Nat.min_eq_left h]
theorem ni{α:Type}{cs l:List α}{off i:Nat}(h:off+l.length<=cs.length)(h1:i<off\/off+l.length<=i):(cs.take off++l++cs.drop (off+l.length))[i]?=cs[i]?:=by
 rcases h1 with h1|h1
 ·rw[List.append_assoc,List.getElem?_append_left (by simp;omega),List.getElem?_take_of_lt h1]
 ·rw[List.getElem?_append_right (by simp;omega),List.getElem?_drop]
  congr 1
  simp;omega
theorem iw{α:Type}{cs l:List α}{off:Nat}(h:off+l.length<=cs.length):(cs.take off++l++cs.drop (off+l.length)).length=cs.length:=by
 simp;omega
theorem aq.jl{cs ds:List V}{l k:List Value}(off:Nat)(h:aq yv L F w cs l)(g:aq yv L F w ds k) :
  aq yv L F w (cs.take off++ds++cs.drop (off+ds.length)) (l.take off++k++l.drop (off+k.length)):=by
 have:=g.length;rw[this];exact((h.take off).append g).append (h.drop _)
theorem bx.L9(x:Cells)(c:bx):(c.cons x).bJ=x.bJ::c.bJ:=by
 cases x<;>cases c<;>rfl
theorem uc{n:Nat}:∀ {l:List (Nat×V)} {i:Nat} {es:bx},ub n i l=some es->es.bJ=l.map (fun p=>p.2.cells.bJ)/\l.map (·.1)=List.range' i l.length /\ ∀ p∈l,p.2.cells.bJ.length=n
 | [],i,es,h=>by simp only[ub,Option.some.injEq]at h;subst h;simp[bx.bJ,bg]
 | (j,v)::r,i,es,h=>by
  simp only[ub]at h;split at h;case h_2=>cases h
  rename_i es' hj hn hr;cases h;have hj:=eM hj;have hn:=eM hn;rw[Cells.jR]at hn;obtain⟨h1,h2,h3⟩:=uc hr;refine⟨by rw[bx.L9,h1];rfl,by simp[h2,hj,List.range'_succ],fun p hp=>?_⟩;rcases List.mem_cons.1 hp with rfl|hp
  ·exact hn
  ·exact h3 p hp
theorem yU{sz:Nat}:∀ {xs:List V} {vs:List Value},aq yv L F w xs vs->(∀ x∈xs,x.cells.bJ.length=sz)->aq yv L F w (xs.flatMap (·.cells.bJ)) (vs.flatMap fun v=>v.cells.toList) /\ ∀ v∈vs,v.cells.size=sz
 | [],vs,h,_=>by
  have:vs = []:=h;subst this;exact⟨rfl,by simp⟩
 | x::xs,vs,h,hs=>by
  obtain⟨v,l,rfl,hx,hl⟩:=h;obtain⟨h1,h2⟩:=yU hl fun y hy=>hs y (List.mem_cons_of_mem _ hy);refine⟨by simpa using hx.sS.append h1,fun u hu=>?_⟩;rcases List.mem_cons.1 hu with rfl|hu
  ·have:=hx.sS.length
   rw[hs x (List.mem_cons_self ..)]at this;simpa using this
  ·exact h2 u hu
theorem vN{n:Nat}:∀ {l:List (List V)},rW n l=true -> ∀ e∈l,e.length=n/\dc e=true
 | [],_,_,he=>by cases he
 | x::r,h,e,he=>by
  simp only[rW]at h;split at h;case h_2=>cases h
  rename_i h1 h2;rcases List.mem_cons.1 he with rfl|he
  ·exact⟨eM h1,h2⟩
  ·exact vN h e he
theorem BP{n:Nat}:∀ {l:List (List D)},jb n l=true->rW n (bg l)=true
 | [],_=>rfl
 | x::r,h=>by
  simp only[jb]at h;split at h;case h_2=>cases h
  rename_i h1 h2;simp only[bg,rW,eR,h1,nQ,h2];exact BP h
theorem CQ{n:Nat}{es:bx}(h:es.ok n=true):∀ e∈es.bJ,e.length=n/\dc e=true:=by
 cases es with
 | dd l=>exact vN (BP h)
 | vv l=>exact vN h
theorem og:∀ {l m:List V},dc l=true->dc m=true->dc (l++m)=true
 | [],_,_,h=>h
 | x::r,m,h,k=>by
  simp only[dc,Bool.and_eq_true]at h;simp[dc,h.1,og h.2 k]
theorem gQ:∀ {l:List (List V)},(∀ e∈l,dc e=true)->dc l.flatten=true
 | [],_=>rfl
 | x::r,h=>by
  rw[List.flatten_cons];exact og (h x (List.mem_cons_self ..)) (gQ fun e he=>h e (List.mem_cons_of_mem _ he))
end
section
variable {P : Program} {T : fA} {e : Env} {h : Heap} {dst : Option Nat} {K : List Wr -> Prop} {ty : TypeId} {pos : String} {after : Array Edge} {guard : Option (Nat × Bool)}
theorem nJ{σ:Type}{cx:Cx σ}{r:Option Nat}{m:List Nat}{L:Loc}{F:Nat->Nat}{st:St σ}{a:Act}{w:World}(hg:Good cx r m L F st a w)(he:dR e st.env):∀ {ps:List (Nat×Operand)} {l:List (Nat×V)},partsOf e ps=some l ->
  l.map (·.1)=ps.map (·.1)/\aq cx.yv L F w (l.map (·.2)) (ps.map fun p=>a.eval p.2)
 | [],l,hp=>by simp only[partsOf,Option.some.injEq]at hp;subst hp;exact⟨rfl,rfl⟩
 | (i,x)::r,l,hp=>by
  simp only[partsOf]at hp;split at hp
  ·rename_i v l' hv hl
   cases hp;obtain⟨h1,h2⟩:=nJ hg he hl;exact⟨by simp[h1],_,_,rfl,hg.aR (aF he hv),h2⟩
  ·cases hp
theorem mn(hT:bA P T){t:TypeId}{ei:sO}(h:gS T t=some ei):∃ el,P.underlying t=some (.slice el)/\T.get el=some ei:=by
 unfold gS at h;split at h;case h_2=>cases h
 rename_i ti iC;split at h;case h_2=>cases h
 rename_i el hk;obtain⟨d,hu,e8⟩:=fK hT iC;rw[hk]at e8;exact⟨el,by rw[hu,fR e8.symm],h⟩
theorem ua(hT:bA P T){el:TypeId}{ei:sO}(kD:T.get el=some ei)(h:pd ei=true) :
  ∃ i z,P.info? el=some i/\i.zero=some z/\0<ei.size/\0<ei.bytes/\ei.size=i.size/\ei.bytes=i.bytes/\z.cells.size=i.size:=by
 obtain⟨i,d,hi,hd,dD,IP,_,_,_,hz⟩:=hT el ei kD;simp only[pd,Bool.and_eq_true]at h;obtain⟨⟨h1,h2⟩,h3⟩:=h;unfold Ih at h3;split at h3;case h_2=>cases h3
 rename_i z Hk;obtain⟨zv,Ki,A5,_⟩:=hz z Hk;have hl:=(ke (F:=fun _=>0) (w:=default) A5).length;have h1:=zO h1;have h2:=zO h2;have h3:=eM h3;exact⟨i,zv,hi,Ki,by omega,by omega,dD,IP,by rw[<- dD,<- h3,<- hl];simp⟩
theorem zX(hT:bA P T){t:TypeId}{n:Nat}{ps:Array (Nat×Operand)}(hk:gW T e h dst (.buildSlice t n ps) K):∃ ws,K ws/\Out P e h ⟨dst,.buildSlice t n ps,ty,pos,after,guard⟩ ws:=by
 simp only[gW]at hk;split at hk;case h_2=>exact hk.elim
 rename_i l ei d hl hs;obtain⟨hc,hk⟩:=cr hk;simp only[Bool.and_eq_true]at hc;obtain⟨⟨ze,gL⟩,mK⟩:=hc;have ze:=eM ze;have mK:=oh mK;split at hk;case h_2=>exact hk.elim
 rename_i es fP;obtain⟨hc,hk⟩:=cr hk;simp only[Bool.and_eq_true]at hc;obtain⟨aaN,jv⟩:=hc;obtain⟨el,hu,kD⟩:=mn hT hs;obtain⟨ie,z,nX,hz',dD,IP,fJ,s5,Ru⟩:=ua hT kD gL;obtain⟨rR,nt,he3⟩:=uc fP;have heo:=CQ aaN;refine⟨_,hk,?_⟩;intro σ cx r m L F st a w he hh hg hd;obtain⟨xH,OA⟩:=nJ hg he hl
 let vs:=ps.toList.map fun p=>a.eval p.2
 have rS:ps.toList.length=n:=by
  have:=congrArg List.length xH;simp only[List.length_map]at this;omega
 have Hi:vs.length=n:=by simpa[vs]using rS
 have AW:∀ x∈l.map (·.2),x.cells.bJ.length=ei.size:=by
  intro x hx;obtain⟨p,hp,rfl⟩:=List.mem_map.1 hx;exact he3 _ hp
 obtain⟨wT,Rr⟩:=yU OA AW;have zh:(ps.map fun(i,x)=>(i,a.eval x)).toList=(vs.zipIdx 0).map fun x=>(x.2,x.1):=by
  have h1:ps.toList.map (·.1)=List.range' 0 n:=by rw[<- xH,nt,ze]
  apply List.ext_getElem?;intro k;simp only[Array.toList_map,List.getElem?_map,List.getElem?_zipIdx,vs]
  cases hk:ps.toList[k]? with
  | none=>simp
  | some p=>
   have h2:(ps.toList.map (·.1))[k]?=some p.1:=by simp[List.getElem?_map,hk]
   have YY:k<n:=by
    have:=(List.getElem?_eq_some_iff.1 hk).1;omega
   rw[h1,List.getElem?_range' YY]at h2;simp at h2;simp[h2]
 let cells:Array Value:=(vs.flatMap fun v=>v.cells.toList).toArray
 have hfe:(l.map (·.2)).flatMap (·.cells.bJ)=es.bJ.flatten:=by rw[rR,List.flatMap_def,List.map_map];rfl
 have xE:es.bJ.length=n:=by rw[rR];simp[ze]
 have iM:dE ei.size es.bJ:=fun e he=>(heo e he).1;have s6:cells.size=n*ei.size:=by
  have h1:=wT.length;rw[hfe,kI iM,xE]at h1;simpa[cells,vs]using h1
 have bZ:(execOp a.eval ⟨some d,.buildSlice t n ps,ty,pos,after,guard⟩).run P w = .ok (.value (.slice (some ⟨w.heap.size,0,none⟩) n n)) (w.alloc (.cells cells el)):=by
  have:(Instr.buildSlice t n (ps.map fun(i,x)=>(i,a.eval x))).run P w = .ok (.slice (some ⟨w.heap.size,0,none⟩) n n) (w.alloc (.cells cells el)):=by
   rcases Nat.eq_zero_or_pos n with h0|h0
   ·subst h0
    have hv0:vs = []:=List.length_eq_zero_iff.1 Hi;have A3:ps = #[]:=by simpa using rS
    subst A3;have EV:cells = #[]:=by simp[cells,hv0]
    rw[EV];simp[Instr.buildSlice,run_underlying hu,sizeOf,typeInfo,nX,Instr.fill,newRow]
    congr 2
    apply Array.eq_empty_of_size_eq_zero;simp
   ·refine run_buildSlice w t el n _ cells ie z hu nX hz' (by rw[<- fJ];omega) (by rw[<- fJ];exact Nat.ne_of_gt (Nat.mul_pos h0 dD)) ?_
    rw[zh,<- fJ];refine Great.fill_whole dD vs _ Rr ?_;simp[Hi]
  simp[execOp,this]
 have tr:Tr F w F (w.alloc (.cells cells el)):=Tr.alloc hg.heap.fresh _;have ux:=hg.new d cells.size (.arr ei.size es) (.cells cells el) (hg.fN (hd d rfl)) ⟨dD,iM,.inr ⟨cells,el,(by show(w.alloc _).heap[if d=d then w.heap.size else L.ρ d]?=_;rw[if_pos rfl];exact heap_alloc_new w _),(by simp),(by rw[xE,s6];exact Nat.le_refl _),(by
  rw[xE,<- s6];have:cells.toList.take cells.size=cells.toList:=by rw[<- Array.length_toList,List.take_length]
  rw[this];refine aq.mY (L:=L) tr (fun i hi=>by simp[hi]) (qv jv) ?_;rw[<- hfe];simpa[cells,vs]using wT)⟩⟩
 refine⟨_,_,_,bZ,.inl rfl,_,F,ux.set (v:=.sl d ei.size 0 n) (hd d rfl) ⟨_,_,rfl,Nat.le_refl _,dD,.inr ⟨(by simp),(by simp[s6])⟩⟩,tr⟩
theorem An{yv:Option Nat}{L:Loc}{F:Nat->Nat}{w:World}{place:Nat->Option (Nat×Nat)}{fs:List (Nat×Nat)}(rS:∀ i p,fs[i]?=some p->place i=some p):∀ {l:List (Nat×V)} {vs:List Value} {cs YC:Cells} {cells:Array Value},
  l9 fs cs l=some YC->aq yv L F w (l.map (·.2)) vs->aq yv L F w cs.bJ cells.toList ->
  ∃ r,Instr.fill place cells ((l.map (·.1)).zip vs)=some r/\aq yv L F w YC.bJ r.toList
 | [],vs,cs,YC,cells,h,hv,hc=>by
  simp only[l9,Option.some.injEq]at h;subst h;exact⟨cells,by simp[Instr.fill],hc⟩
 | (i,v)::r,vs,cs,YC,cells,h,hv,hc=>by
  simp only[l9]at h;obtain⟨x,vs',rfl,hx,Rr⟩:=hv;split at h;case h_2=>cases h
  rename_i off n hi;split at h;case h_2=>cases h
  rename_i wS ou;have wS:=eM wS;have ou:=oh ou;rw[Cells.jR]at wS ou;have Kg:=hx.sS.length;have AW:=hc.length;have Df:x.cells.size=n:=by rw[<- wS,<- Kg];simp
  obtain⟨g1,g2⟩:=Great.foldl_set off x.cells.toList 0 cells;simp only[Nat.add_zero]at g2;have wW:aq yv L F w (cs.jl off v.cells).bJ ((x.cells.toList.zipIdx 0).foldl (fun cs (y:Value×Nat)=>cs.setIfInBounds (off+y.2) y.1) cells).toList:=by
   rw[Cells.pK];refine .lq ?_ fun k c hk=>?_
   ·rw[iw (by omega)]
    simp[g1]at AW ⊢;omega
   ·have nq:∀ y,(if off<=k/\k<off+x.cells.toList.length/\k<cells.size then x.cells.toList[k-off]? else cells[k]?)=some y ->
      ((x.cells.toList.zipIdx 0).foldl (fun cs (y:Value×Nat)=>cs.setIfInBounds (off+y.2) y.1) cells).toList[k]?=some y:=fun y hy=>by
     rw[<- g2 k]at hy;simpa using hy
    have s6:cells.size=cs.bJ.length:=by simpa using AW
    by_cases gN:off<=k/\k<off+n
    ·rw[n9 (by omega) gN.1 (by omega)]at hk
     obtain⟨y,hy,E6⟩:=aq.get _ hx.sS hk;refine⟨y,nq y ?_,E6⟩;rw[if_pos ⟨gN.1,by simp[Df];omega,by omega⟩];exact hy
    ·rw[ni (by omega) (by omega)]at hk
     obtain⟨y,hy,E6⟩:=aq.get _ hc hk;refine⟨y,nq y ?_,E6⟩;rw[if_neg (by simp[Df];omega)];simpa using hy
  obtain⟨res,Da,Hc⟩:=An rS h Rr wW;refine⟨res,?_,Hc⟩;simp only[List.map_cons,List.zip_cons_cons];unfold Instr.fill;simp only[rS _ _ hi,Df];have s6:cells.size=cs.bJ.length:=by simpa using AW
  rw[if_neg (by simp;omega),<- Da]
  congr 1
  rw[<- Array.foldl_toList,Array.toList_zipIdx]
theorem run_places(hT:bA P T){w:World}:∀ {fa:List Field} {sz:List (Nat×Nat)},u4 T (fa.map fun f=>(f.offset,f.type))=some sz ->
  (fa.mapM fun f=>(do pure (f.offset,<- sizeOf f.type):Sem (Nat×Nat))).run P w = .ok sz w
 | [],sz,h=>by simp only[List.map_nil,u4,Option.some.injEq]at h;subst h;simp
 | f::fa,sz,h=>by
  simp only[List.map_cons,u4]at h;split at h
  ·rename_i i l hi hl
   cases h;have:=run_places hT (w:=w) hl;simp only[List.mapM_cons,Sem.run_bind,fz hT hi,Result.andThen_ok,Sem.run_pure,this]
  ·cases h
theorem br.val{yv:Option Nat}{L:Loc}{F:Nat->Nat}{w:World}{c:Cells}{l:Array Value}(h:aq yv L F w c.bJ l.toList):br yv L F w c.val (.agg l):=by
 cases c with
 | dd d=>exact⟨l,rfl,aq.inj.1 h⟩
 | vv d=>exact br.sD h
theorem Bl(size:Nat):∀ (n k i:Nat) (p:Nat×Nat),(yx size (k*size) n)[i]?=some p->some ((k+i)*size,size)=some p
 | 0,k,i,p,h=>by simp[yx]at h
 | n+1,k,0,p,h=>by simpa[yx]using h
 | n+1,k,i+1,p,h=>by
  have h:(yx size (k*size+size) n)[i]?=some p:=by simpa[yx]using h
  rw[show k*size+size=(k+1)*size by rw[Nat.add_mul,Nat.one_mul]]at h;have:=Bl size n (k+1) i p h;rw[<- this];congr 3;omega
theorem parts_eval{ps:Array (Nat×Operand)}(a:Act){l:List (Nat×V)}(xH:l.map (·.1)=ps.toList.map (·.1)):(ps.map fun(i,x)=>(i,a.eval x)).toList=(l.map (·.1)).zip (ps.toList.map fun p=>a.eval p.2):=by
 rw[xH];simp only[Array.toList_map];generalize ps.toList=q
 induction q with
 | nil=>rfl
 | cons x q ih=>simp[ih]
theorem KG(hT:bA P T){t:TypeId}{ps:Array (Nat×Operand)}(hk:gW T e h dst (.build t ps) K):∃ ws,K ws/\Out P e h ⟨dst,.build t ps,ty,pos,after,guard⟩ ws:=by
 simp only[gW]at hk;split at hk;case h_2=>exact hk.elim
 rename_i l ti hl iC;split at hk;case h_3=>exact hk.elim
 case h_2=>
  rename_i n el z fx hz;split at hk;case h_2=>exact hk.elim
  rename_i ei kD;split at hk;case h_2=>exact hk.elim
  rename_i cs hf;obtain⟨i,de,hi,ib,_,_,e8,_,_,Hk⟩:=hT t ti iC;rw[fx]at e8;have:=gA e8.symm;subst this;obtain⟨Z,hZ,A5,_⟩:=Hk z hz;refine⟨_,hk,bM (v:=cs.val) (o:=⟨dst,.build t ps,ty,pos,after,guard⟩) fun cx r m L F st a w he hh hg=>?_⟩;have I0:aq cx.yv L F w (Cells.dd z).bJ Z.cells.toList:=aq.inj.2 (ke A5);obtain⟨xH,OA⟩:=nJ hg he hl;obtain⟨res,hr,Hc⟩:=An (place:=fun i=>some (i*ei.size,ei.size)) (fun i p h=>by have:=Bl ei.size n 0 i p (by rw[Nat.zero_mul];exact h);rw[Nat.zero_add]at this;exact this) hf OA I0;have zh:=parts_eval a xH;refine⟨.agg res,?_,br.val Hc⟩;have h3:(Instr.build t (ps.map fun(i,x)=>(i,a.eval x))).run P w = .ok (.agg res) w:=by
   unfold Instr.build;simp only[Sem.run_bind,zeroValue,typeInfo,run_program,hi,Result.andThen_ok,Sem.run_pure,hZ,run_underlying ib,fz hT kD];rw[zh,hr];simp
  simp[execOp,h3]
 rename_i fs z fx hz;split at hk;case h_2=>exact hk.elim
 rename_i sz dD;split at hk;case h_2=>exact hk.elim
 rename_i cs hf;obtain⟨i,de,hi,ib,_,_,e8,_,_,Hk⟩:=hT t ti iC;rw[fx]at e8;obtain⟨fa,rfl,rfl,_⟩:=jw e8.symm;obtain⟨Z,hZ,A5,_⟩:=Hk z hz;refine⟨_,hk,bM (v:=cs.val) (o:=⟨dst,.build t ps,ty,pos,after,guard⟩) fun cx r m L F st a w he hh hg=>?_⟩;have I0:aq cx.yv L F w (Cells.dd z).bJ Z.cells.toList:=aq.inj.2 (ke A5);obtain⟨xH,OA⟩:=nJ hg he hl;obtain⟨res,hr,Hc⟩:=An (place:=fun i=>sz[i]?) (fun _ _ h=>h) hf OA I0;have zh:=parts_eval a xH;have rS:=run_places hT (w:=w) dD;refine⟨.agg res,?_,br.val Hc⟩;have h2:(fa.mapM fun f=>(do pure (f.offset,<- sizeOf f.type):Sem (Nat×Nat))).run P w = .ok sz.toArray w:=by
  rw[Array.mapM_eq_mapM_toList];simp only[Sem.run_map,rS,Result.andThen_ok]
 have h3:(Instr.build t (ps.map fun(i,x)=>(i,a.eval x))).run P w = .ok (.agg res) w:=by
  unfold Instr.build;simp only[Sem.run_bind,zeroValue,typeInfo,run_program,hi,Result.andThen_ok,Sem.run_pure,hZ,run_underlying ib,h2];rw[zh];have:(fun(x:Nat)=>sz.toArray[x]?)=fun(i:Nat)=>sz[i]?:=by funext i;simp
  rw[this,hr];simp
 simp[execOp,h3]
theorem pG(hT:bA P T){w:World}{t:TypeId}{ti:sO}(ht:T.get t=some ti){b off:Nat}{l:Array Value}{E:TypeId}(hl:w.heap[b]?=some (.cells l E (0,0))){v:Value}
  (hn:v.cells.size=ti.size) (ho:off+ti.size<=l.size) (h1:∀ u∈v.cells.toList,u.oneCell'=true) :
  (storeVar t ⟨b,off,none⟩ v).run P w = .ok () (w.setRow b (l.toList.take off++v.cells.toList++l.toList.drop (off+v.cells.toList.length)).toArray):=by
 have:=run_storeCells_at (P:=P) b off E v.cells.toList 0 l w hl (by simp[hn];omega) h1;simp only[Nat.add_zero,Array.length_toList,hn]at this;simp[storeVar,fz hT ht,hn,this]
theorem Gb{α:Type}{sz:Nat}{es:List (List α)}(hl:dE sz es){i:Nat}{e:List α}(hi:es[i]?=some e){x:List α}{o:Nat}(ho:o+x.length<=sz) :
  (es.set i (e.take o++x++e.drop (o+x.length))).flatten=es.flatten.take (i*sz+o)++x++es.flatten.drop (i*sz+o+x.length):=by
 induction es generalizing i with
 | nil=>simp at hi
 | cons f r ih=>
  have hf:=hl f (List.mem_cons_self ..)
  cases i with
  | zero=>
   simp at hi;subst hi;simp only[List.set_cons_zero,List.flatten_cons,Nat.zero_mul,Nat.zero_add];rw[List.take_append_of_le_length (by omega),List.drop_append_of_le_length (by omega)];simp
  | succ i=>
   simp only[List.set_cons_succ,List.flatten_cons];rw[ih (fun e he=>hl e (List.mem_cons_of_mem _ he)) (by simpa using hi)];have e1:(i+1)*sz+o=f.length+(i*sz+o):=by rw[Nat.succ_mul];omega
   have e2:(i+1)*sz+o+x.length=f.length+(i*sz+o+x.length):=by rw[Nat.succ_mul];omega
   rw[e2,e1,List.take_length_add_append,List.drop_length_add_append];simp
theorem xw{α:Type}{l Y:List α}{o n:Nat}(h:o+Y.length<=n)(hn:n<=l.length) :
  (l.take o++Y++l.drop (o+Y.length)).take n=(l.take n).take o++Y++(l.take n).drop (o+Y.length):=by
 have e1:(l.take n).length=n:=by rw[List.length_take];omega
 apply List.ext_getElem?;intro k;by_cases hk:k<n
 ·rw[List.getElem?_take_of_lt hk]
  by_cases gN:o<=k/\k<o+Y.length
  ·rw[n9 (by omega) gN.1 gN.2,n9 (by omega) gN.1 gN.2]
  ·rw[ni (by omega) (by omega),ni (by omega) (by omega),List.getElem?_take_of_lt hk]
 ·rw[List.getElem?_eq_none (by rw[List.length_take];omega),List.getElem?_eq_none (by rw[iw (by omega)];omega)]
theorem OV(es:bx)(n:Nat)(x:Cells):(es.set n x).bJ=es.bJ.set n x.bJ:=by
 cases es<;>cases x<;>simp[bx.set,bx.bJ,Cells.bJ,cc,List.map_set]
theorem KM(hT:bA P T){t:TypeId}{x y:Operand}(hk:gW T e h dst (.store t x y) K):∃ ws,K ws/\Out P e h ⟨dst,.store t x y,ty,pos,after,guard⟩ ws:=by
 simp only[gW]at hk
 cases dst with
 | some d=>exact hk.elim
 | none=>
 simp only[Oc]at hk;split at hk;case h_2=>exact hk.elim
 rename_i u v ti hu hv ht;obtain⟨hc,hk⟩:=cr hk;simp only[Bool.and_eq_true]at hc;obtain⟨hlen,gL⟩:=hc;have hlen:=eM hlen;rw[Cells.jR]at hlen;split at hk
 ·rename_i id off hp
  split at hk;case h_3=>exact hk.elim
  ·rename_i cs IQ
   obtain⟨hb,hk⟩:=cr hk;have hb:=oh hb;rw[Cells.jR]at hb;refine⟨_,hk,?_⟩;intro σ cx r m L F st a w he hh hg hd;unfold placeOf at hp;split at hp<;>cases hp
   have dV:a.eval x = .pointer (some ⟨L.ρ id,off,none⟩):=hg.aR (aF he hu);have E5:=(hg.aR (aF he hv)).sS;have Hi:=E5.length;have h0:=hh _ _ IQ;obtain⟨l,E,hl,hr⟩:=hg.heap.obj id _ h0;have wV:=hr.length;have ja:=pG hT (w:=w) ht hl (off:=off) (v:=a.eval y) (by rw[<- hlen,<- Hi];simp) (by simp at wV;omega) (E5.one (by rw[<- Cells.ok_eq];exact gL));obtain⟨g1,g2⟩:=hg.obj (o:=.box (cs.jl off v.cells)) h0 trivial (w':=w.setRow (L.ρ id) (l.toList.take off++(a.eval y).cells.toList++l.toList.drop (off+(a.eval y).cells.toList.length)).toArray) rfl rfl rfl (size_setRow _ _ _) (fun b hb=>setRow_other _ _ _ _ hb)
    (by rw[hl];intro ds e;cases e) (by rw[hl];intro lp e;cases e)
    ⟨_,E,setRow_heap _ _ _ _ _ _ hl,by
     rw[Cells.pK];have tr:Tr F w F (w.setRow (L.ρ id) (l.toList.take off++(a.eval y).cells.toList++l.toList.drop (off+(a.eval y).cells.toList.length)).toArray):=
      .jc rfl rfl rfl (by simp) (fun _=>Nat.le_refl _) hg.heap.fresh fun b _ hF=>setRow_other _ _ _ _ (by rintro rfl;have:=(hg.heap.own id _ h0 trivial).1;omega)
     exact aq.mono tr _ _ (fun _ _=>⟨rfl,rfl⟩) (by simpa using aq.jl off hr E5)⟩
   exact⟨undef,_,.skip,by simp[execOp,Instr.storeAt,dV,Instr.sureAddr,ja],.inr ⟨rfl,rfl⟩,L,F,g1,g2⟩
  ·rename_i tt vl IQ
   obtain⟨hb,hk⟩:=cr hk;have hb:=oh hb;refine⟨_,hk,?_⟩;intro σ cx r m L F st a w he hh hg hd;unfold placeOf at hp;split at hp<;>cases hp
   have dV:a.eval x = .pointer (some ⟨L.ρ id,off,none⟩):=hg.aR (aF he hu);have E5:=(hg.aR (aF he hv)).sS;have Hi:=E5.length;have h0:=hh _ _ IQ;obtain⟨l,hl,hr⟩:=hg.heap.obj id _ h0;have wV:=hr.length;have ja:=pG hT (w:=w) ht hl (off:=off) (v:=a.eval y) (by rw[<- hlen,<- Hi];simp) (by simp at wV;omega) (E5.one (by rw[<- Cells.ok_eq];exact gL));obtain⟨g1,g2⟩:=hg.obj (o:=.tb tt ((Cells.vv vl).jl off v.cells).bJ) h0 trivial (w':=w.setRow (L.ρ id) (l.toList.take off++(a.eval y).cells.toList++l.toList.drop (off+(a.eval y).cells.toList.length)).toArray) rfl rfl rfl (size_setRow _ _ _) (fun b hb=>setRow_other _ _ _ _ hb)
    (by rw[hl];intro ds e;cases e) (by rw[hl];intro lp e;cases e)
    ⟨_,setRow_heap _ _ _ _ _ _ hl,by
     rw[Cells.pK];show aq cx.yv L F _ (vl.take off++v.cells.bJ++vl.drop (off+v.cells.bJ.length)) _;have tr:Tr F w F (w.setRow (L.ρ id) (l.toList.take off++(a.eval y).cells.toList++l.toList.drop (off+(a.eval y).cells.toList.length)).toArray):=
      .jc rfl rfl rfl (by simp) (fun _=>Nat.le_refl _) hg.heap.fresh fun b _ hF=>setRow_other _ _ _ _ (by rintro rfl;have:=(hg.heap.own id _ h0 trivial).1;omega)
     exact aq.mono tr _ _ (fun _ _=>⟨rfl,rfl⟩) (by simpa using aq.jl off hr E5)⟩
   exact⟨undef,_,.skip,by simp[execOp,Instr.storeAt,dV,Instr.sureAddr,ja],.inr ⟨rfl,rfl⟩,L,F,g1,g2⟩
 ·rename_i id sz i off hp
  split at hk;case h_2=>exact hk.elim
  rename_i n es fP;obtain⟨hn,nq⟩:=cr hk;have J3:=eM hn;clear hk hn;subst J3;obtain⟨c,SJ,hk⟩:=Ev nq;obtain⟨hb,hk⟩:=cr hk;have hb:=oh hb;rw[Cells.jR]at hb;refine⟨_,hk,?_⟩;intro σ cx r m L F st a w he hh hg hd;unfold placeOf at hp;split at hp<;>cases hp
  have dV:a.eval x = .pointer (some ⟨L.ρ id,i*n+off,none⟩):=hg.aR (aF he hu);have E5:=(hg.aR (aF he hv)).sS;have Hi:=E5.length;have h0:=hh _ _ fP;obtain⟨Tl,iM,dO⟩:=hg.heap.obj id _ h0;rcases dO with⟨nY,_⟩|⟨l,E,hl,hκ,dD,hr⟩
  ·rw[nY]at SJ;simp at SJ
  have AW:c.bJ.length=n:=iM _ (List.mem_of_getElem? SJ);have D3:i<es.bJ.length:=(List.getElem?_eq_some_iff.1 SJ).1;have aci:i*n+n<=es.bJ.length*n:=by rw[<- Nat.succ_mul];exact Nat.mul_le_mul_right _ D3
  have iU:aS L id (.arr n es):=by
   show L.κ id≠0;have:0<es.bJ.length*n:=Nat.mul_pos (by omega) Tl;omega
  have ja:=pG hT (w:=w) ht hl (off:=i*n+off) (v:=a.eval y) (by rw[<- hlen,<- Hi];simp) (by omega) (E5.one (by rw[<- Cells.ok_eq];exact gL));have abe:(a.eval y).cells.toList.length=ti.size:=by rw[Hi,hlen]
  have BM:=iw (cs:=l.toList) (l:=(a.eval y).cells.toList) (off:=i*n+off) (by rw[abe];simp;omega);generalize rQ:(l.toList.take (i*n+off)++(a.eval y).cells.toList++l.toList.drop (i*n+off+(a.eval y).cells.toList.length)).toArray=c' at ja;have ce:c'.toList=l.toList.take (i*n+off)++(a.eval y).cells.toList++l.toList.drop (i*n+off+(a.eval y).cells.toList.length):=by rw[<- rQ]
  have AX:c'.size=l.size:=by rw[<- ce]at BM;simpa using BM
  have tr:Tr F w F (w.setRow (L.ρ id) c'):=
   .jc rfl rfl rfl (by simp) (fun _=>Nat.le_refl _) hg.heap.fresh fun b _ hF=>setRow_other _ _ _ _ (by rintro rfl;have:=(hg.heap.own id _ h0 iU).1;omega)
  have jP:((es.set i (c.jl off v.cells)).bJ)=es.bJ.set i (c.bJ.take off++v.cells.bJ++c.bJ.drop (off+v.cells.bJ.length)):=by rw[OV,Cells.pK]
  obtain⟨g1,g2⟩:=hg.obj (o:=.arr n (es.set i (c.jl off v.cells))) h0 iU (w':=w.setRow (L.ρ id) c') rfl rfl rfl (size_setRow _ _ _) (fun b hb=>setRow_other _ _ _ _ hb)
   (by rw[hl];intro ds e;cases e) (by rw[hl];intro lp e;cases e) (by
    refine⟨Tl,?_,.inr ⟨c',E,setRow_heap _ _ _ _ _ _ hl,?_,?_,?_⟩⟩
    ·rw[jP]
     intro e he;rcases List.mem_or_eq_of_mem_set he with he|rfl
     ·exact iM e he
     ·rw[iw (by omega)];exact AW
    ·rw[AX,hκ]
    ·rw[jP,List.length_set,AX];exact dD
    ·rw[jP,List.length_set,Gb iM SJ (by omega),ce]
     refine aq.mono tr _ _ (fun _ _=>⟨rfl,rfl⟩) ?_;have h1:=aq.jl (i*n+off) hr E5;have e1:(l.toList.take (i*n+off)++(a.eval y).cells.toList++l.toList.drop (i*n+off+(a.eval y).cells.toList.length)).take (es.bJ.length*n) =
       (l.toList.take (es.bJ.length*n)).take (i*n+off)++(a.eval y).cells.toList++(l.toList.take (es.bJ.length*n)).drop (i*n+off+(a.eval y).cells.toList.length):=by
      exact xw (by omega) (by simp;omega)
     rw[e1];exact h1)
  exact⟨undef,_,.skip,by simp[execOp,Instr.storeAt,dV,Instr.sureAddr,ja],.inr ⟨rfl,rfl⟩,L,F,g1,g2⟩
 ·exact hk.elim
end
end Go.PX
