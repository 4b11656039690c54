import Derived.Test.YtdadolcglibjdaaGreatPxB
import Derived.Great.BuildSlice
set_option linter.all false
namespace Go.PX
open Go.RowKit
theorem dY(b off n:Nat):(⟨b,off,none⟩:Addr).add n=⟨b,off+n,none⟩:=by
 unfold Addr.add;split
 ·rename_i h;subst h;rfl
 ·rfl
theorem cc.get{F:Nat->Nat}{w:World}:∀ {cs:List D} {b off:Nat} (i:Nat) {c:D},cc F w b off cs->cs[i]?=some c->off+i<F b /\ ∃ x,w.cell? ⟨b,off+i,none⟩=some x/\bD F w c x
 | [],_,_,i,c,_,hi=>by simp at hi
 | d::r,b,off,0,c,h,hi=>by
  simp at hi;subst hi;exact⟨h.1,h.2.1⟩
 | d::r,b,off,i+1,c,h,hi=>by
  have:=cc.get i h.2.2 (by simpa using hi);simpa[Nat.add_assoc,Nat.add_comm 1 i]using this
theorem cc.jG{F:Nat->Nat}{w:World}:∀ {cs:List D} {b off:Nat},(∀ (i:Nat) (c:D),cs[i]?=some c->off+i<F b /\ ∃ x,w.cell? ⟨b,off+i,none⟩=some x/\bD F w c x)->cc F w b off cs
 | [],_,_,_=>trivial
 | c::r,b,off,h=>⟨(h 0 c (by simp)).1,(h 0 c (by simp)).2,cc.jG fun i d hd=>by
   have:=h (i+1) d (by simpa using hd);simpa[Nat.add_assoc,Nat.add_comm 1 i]using this⟩
theorem cc.drop{F:Nat->Nat}{w:World}{cs:List D}{b off:Nat}(n:Nat)(h:cc F w b off cs):cc F w b (off+n) (cs.drop n):=
 .jG fun i c hc=>by
  rw[List.getElem?_drop]at hc;simpa[Nat.add_assoc]using cc.get _ h hc
theorem cG.get{F:Nat->Nat}{w:World}:∀ {es:List (List D)} {b off sz:Nat} (i:Nat) {e:List D},cG F w b off sz es->es[i]?=some e->e.length=sz/\cc F w b (off+i*sz) e
 | [],_,_,_,i,c,_,hi=>by simp at hi
 | d::r,b,off,sz,0,c,h,hi=>by
  simp at hi;subst hi;exact⟨h.1,by simpa using h.2.1⟩
 | d::r,b,off,sz,i+1,c,h,hi=>by
  have:=cG.get i h.2.2 (by simpa using hi);refine⟨this.1,?_⟩;have e:off+(i+1)*sz=off+sz+i*sz:=by rw[Nat.succ_mul];omega
  rw[e];exact this.2
theorem cG.jG{F:Nat->Nat}{w:World}:∀ {es:List (List D)} {b off sz:Nat},(∀ (i:Nat) (e:List D),es[i]?=some e->e.length=sz/\cc F w b (off+i*sz) e)->cG F w b off sz es
 | [],_,_,_,_=>trivial
 | e::r,b,off,sz,h=>⟨(h 0 e (by simp)).1,by simpa using (h 0 e (by simp)).2,cG.jG fun i d hd=>by
   have:=h (i+1) d (by simpa using hd);have e:off+(i+1)*sz=off+sz+i*sz:=by rw[Nat.succ_mul];omega
   rw[e]at this;exact this⟩
theorem cG.take{F:Nat->Nat}{w:World}{es:List (List D)}{b off sz:Nat}(n:Nat)(h:cG F w b off sz es):cG F w b off sz (es.take n):=
 .jG fun i e he=>by
  rw[List.getElem?_take]at he;split at he
  ·exact cG.get i h he
  ·simp at he
theorem cG.drop{F:Nat->Nat}{w:World}{es:List (List D)}{b off sz:Nat}(n:Nat)(h:cG F w b off sz es):cG F w b (off+n*sz) sz (es.drop n):=
 .jG fun i e he=>by
  rw[List.getElem?_drop]at he;have:=cG.get _ h he;rw[Nat.add_mul,<- Nat.add_assoc]at this;exact this
theorem jQ:∀ {l:List V} {ds:List D},sa l=some ds->l=inj ds
 | [],ds,h=>by simp[sa]at h;subst h;rfl
 | v::r,ds,h=>by
  cases v<;>simp only[sa]at h<;>first|(cases h;done)|skip
  rename_i d
  cases hr:sa r with
  | none=>simp[hr]at h
  | some l=>simp[hr]at h;subst h;simp[inj,jQ hr]
section
variable {yv : Option Nat} {L : Loc} {F : Nat -> Nat} {w : World}
theorem aT.pQ{cs:List V}{l:Array Value}(h:aj yv L F w cs l.toList):aT yv L F w (pQ cs) (.agg l):=by
 unfold PX.pQ;split
 ·rename_i ds hd
  rw[jQ hd]at h;exact⟨l,rfl,aj.inj.1 h⟩
 ·exact⟨l,rfl,h⟩
theorem Cells.iU(c:Cells):c.len=c.bo.length:=by
 cases c
 ·exact(eh _).symm
 ·rfl
theorem aT.sub{c:Cells}{off n:Nat}{l:Array Value}(h:aj yv L F w ((c.bo.drop off).take n) l.toList):aT yv L F w (c.sub off n) (.agg l):=by
 cases c with
 | dd d=>
  refine⟨l,rfl,?_⟩;simp only[Cells.bo,<- vk,<- vn]at h;exact aj.inj.1 h
 | vv d=>exact aT.pQ h
theorem NY{c:Cells}{n:Nat}{K:V->Prop}(h:c.Nw n K):∃ v,c.bo[n]?=some v/\K v:=by
 cases c with
 | dd l=>
  obtain⟨v,hv,hk⟩:=mr h;exact⟨.d v,by simp[Cells.bo,ug,hv],hk⟩
 | vv l=>exact mr h
theorem uY{ti:pF}{c:Cells}{off:Nat}{K:V->Prop}(h:c.pr ti off K) :
  ∃ v,K v/\((ti.isAgg=true/\off+ti.size<=c.bo.length/\v=c.sub off ti.size)\/(ti.isAgg=false/\c.bo[off]?=some v)):=by
 unfold Cells.pr at h;split at h
 ·rename_i hA
  obtain⟨hb,hk⟩:=bA h;rw[Cells.iU]at hb;exact⟨_,hk,.inl ⟨hA,lO hb,rfl⟩⟩
 ·rename_i hA
  obtain⟨v,hv,hk⟩:=NY h;exact⟨v,hk,.inr ⟨hA,hv⟩⟩
theorem uN{b off:Nat}:∀ {cs:List V} (n:Nat),n<=cs.length->(∀ (i:Nat) c,cs[i]?=some c -> ∃ v,w.cell? ⟨b,off+i,none⟩=some v/\aT yv L F w c v) ->
  ∃ l:List Value,aj yv L F w (cs.take n) l /\ ∀ (j:Nat) v,l[j]?=some v->w.cell? ⟨b,off+j,none⟩=some v
 | cs,0,_,_=>⟨[],by simp[aj],by simp⟩
 | cs,n+1,hn,h=>by
  obtain⟨l,hl,hj⟩:=uN n (by omega) h;have dI:n<cs.length:=by omega
  obtain⟨v,hv,hr⟩:=h n cs[n] (by simp[dI]);have Jn:l.length=n:=by have:=hl.length;simp at this;omega
  refine⟨l ++ [v],?_,?_⟩
  ·rw[List.take_succ_eq_append_getElem dI]
   exact hl.append ⟨v,[],rfl,hr,rfl⟩
  ·intro j u hu
   by_cases Rh:j<n
   ·rw[List.getElem?_append_left (by omega)]at hu
    exact hj j u hu
   ·rw[List.getElem?_append_right (by omega)]at hu
    have:j-l.length=0:=by
     rcases Nat.eq_zero_or_pos (j-l.length) with h0|h0
     ·exact h0
     ·rw[List.getElem?_eq_none (by simp;omega)]at hu;cases hu
    rw[this]at hu;simp at hu;subst hu;have:j=n:=by omega
    subst this;exact hv
theorem oA{P:Program}{T:dV}(hT:bl P T){t:TypeId}{ti:pF}(ht:T.get t=some ti){b off o:Nat}{c:Cells}{v:V}
  (hc:∀ (i:Nat) x,(c.bo.drop o)[i]?=some x -> ∃ v,w.cell? ⟨b,off+i,none⟩=some v/\aT yv L F w x v)
  (hv:(ti.isAgg=true/\o+ti.size<=c.bo.length/\v=c.sub o ti.size)\/(ti.isAgg=false/\c.bo[o]?=some v)) :
  ∃ x,(loadVar t ⟨b,off,none⟩).run P w = .ok x w/\aT yv L F w v x:=by
 rcases hv with⟨hA,hn,rfl⟩|⟨hA,hv⟩
 ·obtain⟨l,hl,hj⟩:=uN ti.size (by simp;omega) hc
  have Jn:l.length=ti.size:=by have:=hl.length;simp at this;omega
  have bt:(loadCells ⟨b,off,none⟩ l.length).run P w = .ok l.toArray w:=
   run_loadCells_list (P:=P) w ⟨b,off,none⟩ l (fun j v hv=>by rw[dY];exact hj j v hv)
  rw[Jn]at bt;exact⟨.agg l.toArray,by simp[loadVar,kb hT ht,hA,dA hT ht,bt],aT.sub (by simpa using hl)⟩
 ·obtain⟨x,hx,hr⟩:=hc 0 v (by rw[List.getElem?_drop];exact hv)
  exact⟨x,by simp[loadVar,kb hT ht,hA]at hx ⊢;simp[hx],hr⟩
theorem s6{α:Type}{sz:Nat}:∀ {es:List (List α)} {i j:Nat} {e:List α} {c:α},cK sz es->es[i]?=some e->e[j]?=some c->es.flatten[i*sz+j]?=some c
 | [],i,j,e,c,_,hi,_=>by simp at hi
 | f::es,0,j,e,c,h,hi,hj=>by
  simp at hi;subst hi;have:j<f.length:=(List.getElem?_eq_some_iff.1 hj).1;rw[List.flatten_cons,Nat.zero_mul,Nat.zero_add,List.getElem?_append_left this];exact hj
 | f::es,i+1,j,e,c,h,hi,hj=>by
  have hf:=h f (List.mem_cons_self ..);rw[List.flatten_cons,List.getElem?_append_right (by rw[Nat.succ_mul];omega)];have:(i+1)*sz+j-f.length=i*sz+j:=by rw[Nat.succ_mul];omega
  rw[this];exact s6 (fun e he=>h e (List.mem_cons_of_mem _ he)) (by simpa using hi) hj
theorem jk{α:Type}{sz:Nat}:∀ {es:List (List α)},cK sz es->es.flatten.length=es.length*sz
 | [],_=>by simp
 | f::es,h=>by
  rw[List.flatten_cons,List.length_append,jk (fun e he=>h e (List.mem_cons_of_mem _ he)),h f (List.mem_cons_self ..),List.length_cons,Nat.succ_mul];omega
theorem Ar{es:a7}{n:Nat}{K:Cells->Prop}(h:es.Nw n K):∃ c,es.bo[n]?=some c.bo/\K c:=by
 cases es with
 | dd l=>
  obtain⟨v,hv,hk⟩:=mr h;exact⟨.dd v,by simp[a7.bo,cq,hv,Cells.bo],hk⟩
 | vv l=>
  obtain⟨v,hv,hk⟩:=mr h;exact⟨.vv v,by simp[a7.bo,hv,Cells.bo],hk⟩
theorem bF.Ai{id:Nat}{c:Cells}(h:bF yv L F w id (.box c))(o:Nat):∀ (i:Nat) x,(c.bo.drop o)[i]?=some x -> ∃ v,w.cell? ⟨L.ρ id,o+i,none⟩=some v/\aT yv L F w x v:=by
 intro i x hx;obtain⟨l,T,hl,hr⟩:=h;rw[List.getElem?_drop]at hx;obtain⟨v,hv,zm⟩:=aj.get _ hr hx;exact⟨v,by rw[cell_of_row _ _ _ _ _ _ hl];simpa using hv,zm⟩
theorem bF.Gf{id sz i:Nat}{es:a7}{c:Cells}(h:bF yv L F w id (.arr sz es))(hi:es.bo[i]?=some c.bo)(o:Nat) :
  ∀ (j:Nat) x,(c.bo.drop o)[j]?=some x -> ∃ v,w.cell? ⟨L.ρ id,i*sz+o+j,none⟩=some v/\aT yv L F w x v:=by
 intro j x hx;obtain⟨hs,hl,h⟩:=h;rw[List.getElem?_drop]at hx;rcases h with⟨he,_⟩|⟨l,T,kQ,hk,hn,hr⟩
 ·rw[he]at hi;simp at hi
 ·have hg:=s6 hl hi hx
  obtain⟨v,hv,zm⟩:=aj.get _ hr hg;refine⟨v,?_,zm⟩;rw[cell_of_row _ _ _ _ _ _ kQ,Nat.add_assoc];rw[List.getElem?_take]at hv;split at hv
  ·simpa using hv
  ·cases hv
end
section
variable {P : Program} {T : dV} {e : Env} {h : aq} {dst : Option Nat} {K : List Wr -> Prop} {ty : TypeId} {pos : String} {after : Array Edge} {guard : Option (Nat × Bool)}
theorem DZ(hT:bl P T){t:TypeId}{x:Operand}{K:V->Prop}(hk:A9 T e h t x K) :
  ∃ v,K v /\ ∀ {σ:Type} (cx:Cx σ) (L:Loc) (F:Nat->Nat) (s:σ) (u:Value) (w:World) (hp:aq),cN h hp->bp cx L F hp s w->(∀ v,aH e x=some v->aT cx.yv L F w v u) ->
   ∃ b off y,u = .pointer (some ⟨b,off,none⟩)/\(loadVar t ⟨b,off,none⟩).run P w = .ok y w/\aT cx.yv L F w v y:=by
 unfold A9 at hk;split at hk
 ·exact hk.elim
 rename_i v hv;split at hk
 ·rename_i cs ti hp ht
  obtain⟨r,hr,hc⟩:=uY hk;refine⟨r,hr,fun cx L F s u w EU hs hg hu=>?_⟩;unfold placeOf at hp;split at hp<;>cases hp
  obtain⟨b,off,rfl,zW⟩:=hu _ hv;obtain⟨y,hy,hr⟩:=oA (yv:=cx.yv) (L:=L) (F:=F) (w:=w) (b:=b) (off:=off) (o:=0) hT ht (fun i x hx=>by
   rw[List.drop_zero,Cells.bo,ug]at hx
   cases sj:cs[i]? with
   | none=>simp[sj]at hx
   | some c=>
    simp[sj]at hx;subst hx;exact(cc.get i zW sj).2) hc
  exact⟨b,off,y,rfl,hy,hr⟩
 ·rename_i id off ti hp ht
  have rd:∀ (cs:Cells),cs.pr ti off K->(∀ {yv:Option Nat} {L:Loc} {F:Nat->Nat} {w:World} {o:Obj},get h id=some o->bF yv L F w id o -> ∀ (j:Nat) x,(cs.bo.drop off)[j]?=some x -> ∃ v,w.cell? ⟨L.ρ id,off+j,none⟩=some v/\aT yv L F w x v) ->
    ∃ v,K v /\ ∀ {σ:Type} (cx:Cx σ) (L:Loc) (F:Nat->Nat) (s:σ) (u:Value) (w:World) (hp:aq),cN h hp->bp cx L F hp s w->(∀ v,aH e x=some v->aT cx.yv L F w v u) ->
   ∃ b off y,u = .pointer (some ⟨b,off,none⟩)/\(loadVar t ⟨b,off,none⟩).run P w = .ok y w/\aT cx.yv L F w v y:=by
   intro cs hk Cj;obtain⟨r,hr,hc⟩:=uY hk;refine⟨r,hr,fun cx L F s u w EU hs hg hu=>?_⟩;unfold placeOf at hp;split at hp<;>cases hp
   have hu:u = .pointer (some ⟨L.ρ id,off,none⟩):=hu _ hv;have ho:∃ o,get h id=some o/\bF cx.yv L F w id o:=by
    cases AL:get h id with
    | none=>exact absurd hk (by simp[AL]at *)
    | some o=>exact⟨o,rfl,hg.obj id _ (hs _ _ AL)⟩
   obtain⟨o,MJ,Zt⟩:=ho;obtain⟨y,hy,hr⟩:=oA (yv:=cx.yv) (L:=L) (F:=F) (w:=w) (b:=L.ρ id) (off:=off) (o:=off) hT ht (Cj MJ Zt) hc;exact⟨_,_,y,hu,hy,hr⟩
  split at hk;case h_4=>exact hk.elim
  ·rename_i cs Cj
   exact rd cs hk fun ho hr=>by rw[Cj]at ho;cases ho;exact bF.Ai hr off
  ·rename_i tt l Cj
   exact rd (.vv l) hk fun ho hr=>by
    rw[Cj]at ho;cases ho;obtain⟨c,hc,hr⟩:=hr;exact bF.Ai (c:=.vv l) ⟨c,_,hc,hr⟩ off
  ·rename_i l Cj
   exact rd (.vv l) hk fun ho hr=>by
    rw[Cj]at ho;cases ho;obtain⟨c,hc,hr⟩:=hr;intro j x hx;have hx:(l.drop off)[j]?=some x:=hx;rw[List.getElem?_drop]at hx;obtain⟨v,hv,zm⟩:=aj.get _ hr hx;exact⟨v,by have:=hc.get hv;rwa [Nat.zero_add]at this,zm⟩
 ·rename_i id sz i off ti hp ht
  split at hk;case h_2=>exact hk.elim
  rename_i n es nC;obtain⟨hn,hk⟩:=bA hk;have hn:=da hn;obtain⟨c,Mk,hk⟩:=Ar hk;obtain⟨r,hr,hc⟩:=uY hk;refine⟨r,hr,fun cx L F s u w EU hs hg hu=>?_⟩;unfold placeOf at hp;split at hp<;>cases hp
  have hu:u = .pointer (some ⟨L.ρ id,i*sz+off,none⟩):=hu _ hv;subst hn;obtain⟨y,hy,hr⟩:=oA (yv:=cx.yv) (L:=L) (F:=F) (w:=w) (b:=L.ρ id) (off:=i*n+off) (o:=off) hT ht (bF.Gf (hg.obj id _ (hs _ _ nC)) Mk off) hc;exact⟨_,_,y,hu,hy,hr⟩
 ·exact hk.elim
theorem HO(hT:bl P T){t:TypeId}{x:Operand}(hk:fK T e h dst (.load t x) K):∃ ws,K ws/\Out P e h ⟨dst,.load t x,ty,pos,after,guard⟩ ws:=by
 simp only[fK]at hk;obtain⟨v,hv,hl⟩:=DZ (P:=P) hT hk;refine⟨_,hv,bj (o:=⟨dst,.load t x,ty,pos,after,guard⟩) fun cx r m L F st a w he hh hg=>?_⟩;obtain⟨b,off,y,hu,hy,hr⟩:=hl cx L F st.s (a.eval x) w st.heap hh hg.heap (fun v hv=>hg.aH (ax he hv));exact⟨y,by simp[execOp,Instr.loadAt,hu,Instr.sureAddr,hy],hr⟩
theorem xr(hT:bl P T){t:TypeId}{i off:Nat}{fi:pF}(h:qY T t i=some (off,fi)) :
  ∃ (fa:Array Field) (f:Field),P.underlying t=some (.struct fa)/\fa[i]?=some f/\f.offset=off/\T.get f.type=some fi:=by
 unfold qY at h;split at h;case h_2=>cases h
 rename_i ti fk;split at h;case h_2=>cases h
 rename_i fs hk;split at h;case h_2=>cases h
 rename_i Z2 ft hi;split at h;case h_2=>cases h
 rename_i fi' Ra;cases h;obtain⟨ii,de,Zb,fB,_,_,dw,_⟩:=hT t ti fk;rw[hk]at dw;obtain⟨fa,rfl,rfl,_⟩:=gR dw.symm;rw[List.getElem?_map]at hi
 cases hf:fa.toList[i]? with
 | none=>rw[hf]at hi;cases hi
 | some f=>
  rw[hf]at hi;cases hi;exact⟨fa,f,fB,by simpa using hf,rfl,Ra⟩
theorem xU{v:V}{p:Place}(hp:placeOf v=some p)(n:Nat){yv:Option Nat}{L:Loc}{F:Nat->Nat}{w:World}{u:Value}(hr:aT yv L F w v u) :
  ∃ b off,u = .pointer (some ⟨b,off,none⟩)/\aT yv L F w (p.add n) (.pointer (some ⟨b,off+n,none⟩)):=by
 unfold placeOf at hp;split at hp<;>cases hp
 ·obtain⟨b,off,rfl,zW⟩:=hr
  exact⟨b,off,rfl,b,off+n,rfl,cc.drop n zW⟩
 ·exact⟨_,_,hr,rfl⟩
 ·exact⟨_,_,hr,by show Value.pointer _=Value.pointer _;rw[Nat.add_assoc]⟩
theorem wU(hT:bl P T){t:TypeId}{x:Operand}{i:Nat}(hk:fK T e h dst (.fieldAddr t x i) K):∃ ws,K ws/\Out P e h ⟨dst,.fieldAddr t x i,ty,pos,after,guard⟩ ws:=by
 simp only[fK]at hk;split at hk;case h_2=>exact hk.elim
 rename_i v off fi hv hf;obtain⟨cY,hk⟩:=bA hk;have cY:=vD cY;split at hk;case h_2=>exact hk.elim
 rename_i p hp;obtain⟨fa,f,hu,Ra,rfl,VY⟩:=xr hT hf;refine⟨_,hk,bj (o:=⟨dst,.fieldAddr t x i,ty,pos,after,guard⟩) fun cx r m L F st a w he hh hg=>?_⟩;obtain⟨b,o',cF,hr⟩:=xU hp f.offset (hg.aH (ax he hv));exact⟨_,by simp[execOp,Instr.fieldAt,run_underlying hu,Ra,cF,Instr.sureAddr,fieldPlace,dA hT VY,cY,dY],hr⟩
theorem yd(hT:bl P T){yv:Option Nat}{L:Loc}{F:Nat->Nat}{w:World}{t:TypeId}{ti:pF}(ht:T.get t=some ti){cs:Array Value}{c:Cells}{off:Nat}(hx:aj yv L F w c.bo cs.toList){v:V}
  (hv:(ti.isAgg=true/\off+ti.size<=c.bo.length/\v=c.sub off ti.size)\/(ti.isAgg=false/\c.bo[off]?=some v)) :
  ∃ y,(part t cs off).run P w = .ok y w/\aT yv L F w v y:=by
 rcases hv with⟨hA,hn,rfl⟩|⟨hA,hv⟩
 ·refine⟨.agg (cs.extract off (off+ti.size)),by simp[part,kb hT ht,hA,dA hT ht],aT.sub ?_⟩
  have:(cs.extract off (off+ti.size)).toList=(cs.toList.drop off).take ti.size:=by simp[List.extract_eq_take_drop]
  rw[this];exact(hx.drop off).take _
 ·obtain⟨y,hy,hr⟩:=aj.get off hx hv
  have mH:cs[off]?=some y:=by simpa using hy
  exact⟨y,by simp[part,kb hT ht,hA,mH],hr⟩
theorem Fk(hT:bl P T){t:TypeId}{x:Operand}{i:Nat}(hk:fK T e h dst (.field t x i) K):∃ ws,K ws/\Out P e h ⟨dst,.field t x i,ty,pos,after,guard⟩ ws:=by
 simp only[fK]at hk;have key:∀ (c:Cells) (off:Nat) (fi:pF) (u:V),aH e x=some u->qY T t i=some (off,fi)->(∀ (yv:Option Nat) (L:Loc) (F:Nat->Nat) (w:World) (y:Value),aT yv L F w u y -> ∃ l:Array Value,y = .agg l/\aj yv L F w c.bo l.toList) ->
   c.pr fi off (fun v=>K (aO dst v)) -> ∃ ws,K ws/\Out P e h ⟨dst,.field t x i,ty,pos,after,guard⟩ ws:=by
  intro c off fi u hu hf hr hk;obtain⟨v,hv,hc⟩:=uY hk;obtain⟨fa,f,tf,Ra,rfl,VY⟩:=xr hT hf;refine⟨_,hv,bj (o:=⟨dst,.field t x i,ty,pos,after,guard⟩) fun cx r m L F st a w he hh hg=>?_⟩;obtain⟨l,hl,Wa⟩:=hr _ _ _ _ _ (hg.aH (ax he hu));obtain⟨y,hy,hr⟩:=yd hT VY Wa hc;exact⟨y,by simp[execOp,Instr.field,run_underlying tf,Ra,hl,asAgg,hy],hr⟩
 split at hk
 ·rename_i cs off fi hu hf
  exact key (.dd cs) off fi _ hu hf (fun yv L F w y hr=>by obtain⟨l,rfl,hl⟩:=hr;exact⟨l,rfl,aj.inj.2 hl⟩) hk
 ·rename_i cs off fi hu hf
  exact key (.vv cs) off fi _ hu hf (fun yv L F w y hr=>by obtain⟨l,rfl,hl⟩:=hr;exact⟨l,rfl,hl⟩) hk
 ·exact hk.elim
theorem IP{es:List (List D)}{i:Int}{K:List D->Prop}(h:xp es i K):∃ l,0<=i/\es[i.toNat]?=some l/\K l:=by
 unfold xp at h;split at h
 ·rename_i l h0 hl;exact⟨l,of_decide_eq_true h0,hl,h⟩
 ·exact h.elim
theorem dy(hT:bl P T){t:TypeId}{ti:pF}(ht:T.get t=some ti):∃ d,P.underlying t=some d/\ti.kd=iT d:=by
 obtain⟨i,d,hi,hd,_,_,hk,_⟩:=hT t ti ht;exact⟨d,hd,hk⟩
theorem wV(hT:bl P T){t:TypeId}{x i:Operand}(hk:fK T e h dst (.indexAddr t x i) K):∃ ws,K ws/\Out P e h ⟨dst,.indexAddr t x i,ty,pos,after,guard⟩ ws:=by
 simp only[fK]at hk;split at hk;case h_2=>exact hk.elim
 rename_i ti v k n ht hv hi;obtain⟨d,hu,dw⟩:=dy hT ht;split at hk
 ·rename_i el dC
  rw[dC]at dw;have:=eo dw.symm;subst this;split at hk;case h_2=>exact hk.elim
  rename_i ei iF;obtain⟨cY,hk⟩:=bA hk;have cY:=vD cY;split at hk
  ·rename_i es _
   obtain⟨l,nZ,hl,hk⟩:=IP hk;obtain⟨Jn,hk⟩:=bA hk;have Jn:=da Jn;refine⟨_,hk,bj (o:=⟨dst,.indexAddr t x i,ty,pos,after,guard⟩) fun cx r m L F st a w he hh hg=>?_⟩;have Jj:=ic hg he hi;obtain⟨a0,len,cap,cF,hlen,kq,nC⟩:=hg.aH (ax he hv);obtain⟨b,off,sz,rfl,zn,zW⟩:=nC (by rintro rfl;simp at hl);obtain⟨Zn,Wt⟩:=cG.get n.toNat zW hl;have Ct:sz=ei.size:=by omega
   have nh:n.toNat<es.length:=(List.getElem?_eq_some_iff.1 hl).1;refine⟨.pointer (some ⟨b,off+n.toNat*ei.size,none⟩),?_,b,_,rfl,Ct▸Wt⟩;have h1:(n:Int)<(len:Int):=by rw[hlen];omega
   simp[execOp,Instr.indexAt,Jj,asIntOf,run_underlying hu,cF,nZ,h1,dA hT iF,dY]
  ·rename_i id sz off len _
   obtain⟨hn,hk⟩:=bA hk;simp only[Bool.and_eq_true,decide_eq_true_eq]at hn;obtain⟨Ct,hk⟩:=bA hk;have Ct:=da Ct;refine⟨_,hk,bj (o:=⟨dst,.indexAddr t x i,ty,pos,after,guard⟩) fun cx r m L F st a w he hh hg=>?_⟩;have Jj:=ic hg he hi;obtain⟨a0,cap,cF,kq,zn,hb⟩:=hg.aH (ax he hv);rcases hb with⟨h0,_⟩|⟨rfl,hb⟩
   ·omega
   refine⟨.pointer (some ⟨L.ρ id,off*sz+n.toNat*ei.size,none⟩),?_,?_⟩
   ·simp[execOp,Instr.indexAt,Jj,asIntOf,run_underlying hu,cF,hn.1,hn.2,dA hT iF,dY]
   ·show Value.pointer _=Value.pointer _
    rw[<- Ct,Nat.add_zero,Nat.add_mul]
  ·exact hk.elim
 ·rename_i len el dC
  rw[dC]at dw;have:=ek dw.symm;subst this;split at hk;case h_2=>exact hk.elim
  rename_i ei p iF hp;obtain⟨cY,hk⟩:=bA hk;have cY:=vD cY;obtain⟨hn,hk⟩:=bA hk;simp only[Bool.and_eq_true,decide_eq_true_eq]at hn;refine⟨_,hk,bj (o:=⟨dst,.indexAddr t x i,ty,pos,after,guard⟩) fun cx r m L F st a w he hh hg=>?_⟩;have Jj:=ic hg he hi;obtain⟨b,o',cF,hr⟩:=xU hp (n.toNat*ei.size) (hg.aH (ax he hv));exact⟨_,by simp[execOp,Instr.indexAt,Jj,asIntOf,run_underlying hu,cF,Instr.sureAddr,hn.1,hn.2,dA hT iF,dY],hr⟩
 ·exact hk.elim
theorem Fl(hT:bl P T){t:TypeId}{x i:Operand}(hk:fK T e h dst (.index t x i) K):∃ ws,K ws/\Out P e h ⟨dst,.index t x i,ty,pos,after,guard⟩ ws:=by
 simp only[fK]at hk;split at hk;case h_2=>exact hk.elim
 rename_i ti v k n ht hv hi;obtain⟨d,hu,dw⟩:=dy hT ht;have key:∀ (c:Cells) (len:Nat) (el:TypeId) (ei:pF),d = .array len el->T.get el=some ei->0<=n/\n<len ->
   (∀ (yv:Option Nat) (L:Loc) (F:Nat->Nat) (w:World) (y:Value),aT yv L F w v y -> ∃ l:Array Value,y = .agg l/\aj yv L F w c.bo l.toList) ->
   c.pr ei (n.toNat*ei.size) (fun v=>K (aO dst v)) -> ∃ ws,K ws/\Out P e h ⟨dst,.index t x i,ty,pos,after,guard⟩ ws:=by
  intro c len el ei fB iF hn hr hk;subst fB;obtain⟨u,Hm,hc⟩:=uY hk;refine⟨_,Hm,bj (o:=⟨dst,.index t x i,ty,pos,after,guard⟩) fun cx r m L F st a w he hh hg=>?_⟩;have Jj:=ic hg he hi;obtain⟨l,hl,Wa⟩:=hr _ _ _ _ _ (hg.aH (ax he hv));obtain⟨y,hy,hr⟩:=yd hT iF Wa hc;exact⟨y,by simp[execOp,Instr.index,Jj,hl,asIntOf,run_underlying hu,hn.1,hn.2,dA hT iF,hy],hr⟩
 split at hk
 ·rename_i s dC
  rw[dC]at dw;have:=im dw.symm;subst this;obtain⟨hn,hk⟩:=bA hk;have hn:=of_decide_eq_true hn;obtain⟨b,hb,hk⟩:=mr hk;refine⟨_,hk,bj (v:=.d (.int .u8 b.toNat)) (o:=⟨dst,.index t x i,ty,pos,after,guard⟩) fun cx r m L F st a w he hh hg=>?_⟩;have Jj:=ic hg he hi;have ZT:=km hg he hv;have EP:n.toNat<s.data.toList.length:=(List.getElem?_eq_some_iff.1 hb).1;have dI:n.toNat<s.size:=by simpa using EP
  have kR:s[n.toNat]?=some b:=by
   rw[getElem?_pos s n.toNat dI];rw[List.getElem?_eq_getElem EP]at hb;cases hb;rfl
  exact⟨.int .u8 b.toNat,by simp[execOp,Instr.index,Jj,ZT,asIntOf,run_underlying hu,hn,kR],rfl⟩
 ·rename_i len el cs dC
  rw[dC]at dw;split at hk;case h_2=>exact hk.elim
  rename_i ei iF;obtain⟨hn,hk⟩:=bA hk;simp only[Bool.and_eq_true,decide_eq_true_eq]at hn;exact key (.dd cs) len el ei (ek dw.symm) iF hn (fun yv L F w y hr=>by obtain⟨l,rfl,hl⟩:=hr;exact⟨l,rfl,aj.inj.2 hl⟩) hk
 ·rename_i len el cs dC
  rw[dC]at dw;split at hk;case h_2=>exact hk.elim
  rename_i ei iF;obtain⟨hn,hk⟩:=bA hk;simp only[Bool.and_eq_true,decide_eq_true_eq]at hn;exact key (.vv cs) len el ei (ek dw.symm) iF hn (fun yv L F w y hr=>by obtain⟨l,rfl,hl⟩:=hr;exact⟨l,rfl,hl⟩) hk
 ·exact hk.elim
end
section
variable {yv : Option Nat} {L : Loc} {F : Nat -> Nat} {w : World}
theorem bD.one{a:D}{v:Value}(h:bD F w a v)(hs:a.scalar=true):v.oneCell'=true:=by
 cases a<;>simp[D.scalar]at hs<;>simp only[bD]at h
 case bool=>subst h;rfl
 case int=>subst h;rfl
 case str=>subst h;rfl
 case vs=>obtain⟨a,len,cap,rfl,_⟩:=h;rfl
 case nils=>subst h;rfl
 case ref=>obtain⟨b,off,rfl,_⟩:=h;rfl
 case nilp=>subst h;rfl
 case mv=>obtain⟨r,en,c,rfl,_⟩:=h;rfl
 case nilm=>subst h;rfl
 case clo=>obtain⟨l,rfl,_⟩:=h;rfl
 case mth=>obtain⟨l,rfl,_⟩:=h;rfl
 case nilf=>subst h;rfl
 case ifc=>obtain⟨y,rfl,_⟩:=h;rfl
 case nili=>subst h;rfl
theorem aT.one{a:V}{v:Value}(h:aT yv L F w a v)(hs:a.scalar=true):v.oneCell'=true:=by
 cases a<;>simp[V.scalar]at hs<;>simp only[aT]at h
 case d=>exact bD.one h hs
 case ptr=>subst h;rfl
 case ep=>subst h;rfl
 case sl=>obtain⟨a,cap,rfl,_⟩:=h;rfl
 case mp=>subst h;rfl
 case it=>subst h;rfl
 case clo=>obtain⟨l,rfl,_⟩:=h;rfl
 case ifc=>obtain⟨l,rfl,_⟩:=h;rfl
 case yld=>obtain⟨l,_,rfl⟩:=h;rfl
 case unk=>exact h
theorem Fc{v:Value}(h:v.oneCell'=true):v.cells.toList = [v]:=by
 cases v<;>simp_all[Value.oneCell',Value.cells]
theorem aT.cells{a:V}{v:Value}(h:aT yv L F w a v)(hs:a.cells.ok=true):aj yv L F w a.cells.bo v.cells.toList:=by
 have key:a.scalar=true->a.cells.bo = [a]->aj yv L F w a.cells.bo v.cells.toList:=fun h1 h2=>by
  rw[h2,Fc (h.one h1)];exact⟨v,[],rfl,h,rfl⟩
 cases a with
 | d x=>
  cases x with
  | agg cs=>
   obtain⟨l,rfl,hl⟩:=h;exact aj.inj.2 hl
  | tup cs=>simp[V.cells,Cells.ok,gD,D.scalar]at hs
  | _=>exact key rfl rfl
 | agg cs=>
  obtain⟨l,rfl,hl⟩:=h;exact hl
 | tup cs=>simp[V.cells,Cells.ok,cf,V.scalar]at hs
 | _=>exact key rfl rfl
theorem lz:∀ (l:List D),cf (inj l)=gD l
 | []=>rfl
 | c::r=>by simp[inj,cf,gD,V.scalar,lz r]
theorem Cells.ok_eq(c:Cells):c.ok=cf c.bo:=by
 cases c
 ·exact(lz _).symm
 ·rfl
theorem pG:∀ {l:List V},cf l=true -> ∀ v∈l,v.scalar=true
 | [],_,v,hv=>by cases hv
 | x::r,h,v,hv=>by
  simp only[cf,Bool.and_eq_true]at h;rcases List.mem_cons.1 hv with rfl|hv
  ·exact h.1
  ·exact pG h.2 v hv
theorem aj.one{cs:List V}{l:List Value}(h:aj yv L F w cs l)(hs:cf cs=true):∀ v∈l,v.oneCell'=true:=by
 intro v hv;obtain⟨i,hi,rfl⟩:=List.getElem_of_mem hv;have hlen:=h.length;have hc:cs[i]?=some cs[i]:=List.getElem?_eq_getElem (by omega);obtain⟨y,hy,hr⟩:=h.get i hc;rw[List.getElem?_eq_getElem hi]at hy;cases hy;exact hr.one (pG hs _ (List.getElem_mem _))
theorem iK{v:Value}{z:List D}(h:zeroCells v=some z):aS F w z v.cells.toList:=by
 unfold zeroCells at h;have sc:∀ {d:D},kD v=some d->v.cells.toList = [v]/\bD F w d v:=by
  intro d hd;refine⟨?_,lr hd⟩;unfold kD at hd;split at hd<;>first|(cases hd;done)|rfl
 split at h
 ·rename_i l hl
  cases h;unfold ofConst at hl;split at hl
  ·rename_i cs
   cases hs:gU cs.toList with
   | none=>rw[hs]at hl;cases hl
   | some l'=>rw[hs]at hl;cases hl;exact jx hs
  ·rename_i cs
   split at hl
   ·cases hl
   ·cases hl
  ·unfold kD at hl
   split at hl<;>cases hl
 ·cases h
 ·rename_i d h1 h2 hd
  cases h;unfold ofConst at hd;split at hd
  ·rename_i cs
   cases hs:gU cs.toList with
   | none=>rw[hs]at hd;cases hd
   | some l'=>rw[hs]at hd;cases hd;exact absurd rfl (h1 _)
  ·rename_i cs
   split at hd
   ·cases hd;exact absurd rfl (h2 _)
   ·cases hd
  ·obtain⟨e1,e2⟩:=sc hd
   rw[e1];exact⟨v,[],rfl,e2,rfl⟩
 ·cases h
end
section
variable {P : Program} {T : dV} {e : Env} {h : aq} {dst : Option Nat} {K : List Wr -> Prop} {ty : TypeId} {pos : String} {after : Array Edge} {guard : Option (Nat × Bool)}
theorem JS{fn:Fn}{first aL:Array Operand}(hk:Nb e dst fn first.toList aL.toList K):∃ ws,K ws/\Out P e h ⟨dst,.makeFunc fn first aL,ty,pos,after,guard⟩ ws:=by
 generalize hf:first.toList=fl at hk
 generalize hc:aL.toList=cl at hk;unfold Nb at hk;split at hk;case h_2=>exact hk.elim
 rename_i f x r;split at hk;case h_2=>exact hk.elim
 rename_i l hl;split at hk;case h_2=>exact hk.elim
 rename_i ds hd;have VJ:aL = #[]:=by simpa using hc
 subst VJ;refine⟨_,hk,bj (v:=.d (.mth f ds)) (o:=⟨dst,.makeFunc (.func f) first #[],ty,pos,after,guard⟩) fun cx r m L F st a w he hh hg=>⟨.func (.func f) (first.map a.eval) #[],by simp[execOp,Instr.makeFunc],_,rfl,?_⟩⟩;have:=hg.cE (ka he hl);rw[jQ hd,<- hf]at this;simpa using aj.inj.1 this
theorem zA{fn:Fn}{first aL:Array Operand}(hk:fK T e h dst (.makeFunc fn first aL) K):∃ ws,K ws/\Out P e h ⟨dst,.makeFunc fn first aL,ty,pos,after,guard⟩ ws:=by
 simp only[fK]at hk;split at hk;case h_2=>exact JS hk
 rename_i f l hf hl;have Y2:first = #[]:=by simpa using hf
 subst Y2;have run:∀ (a:Act) (w:World),(execOp a.eval ⟨dst,.makeFunc (.func f) #[] aL,ty,pos,after,guard⟩).run P w = .ok (.value (.func (.func f) #[] (aL.map a.eval))) w:=fun a w=>by
  simp[execOp,Instr.makeFunc]
 split at hk
 ·rename_i ds hd
  refine⟨_,hk,bj (v:=.d (.clo f ds)) (o:=⟨dst,.makeFunc (.func f) #[] aL,ty,pos,after,guard⟩) fun cx r m L F st a w he hh hg=>⟨_,run a w,_,rfl,?_⟩⟩;have:=hg.cE (ka he hl);rw[jQ hd]at this;simpa using aj.inj.1 this
 ·refine⟨_,hk,bj (v:=.clo f l) (o:=⟨dst,.makeFunc (.func f) #[] aL,ty,pos,after,guard⟩) fun cx r m L F st a w he hh hg=>⟨_,run a w,_,rfl,?_⟩⟩
  simpa using hg.cE (ka he hl)
section
variable {σ : Type} {cx : Cx σ} {r : Option Nat} {m : List Nat} {L : Loc} {F : Nat -> Nat} {st : St σ} {a : Act} {w : World}
theorem Good.J9(hh:Good cx r m L F st a w){id d:Nat}(kk:Nat){o0 o:Obj}(Wn:¬ pinned d)(h0:get st.heap id=some o0)(qk:aJ L id o0){w':World}
  (NH:w'.os=w.os) (ht:w'.tape=w.tape) (hu:w'.output=w.output) (cY:w'.heap.size=w.heap.size) (hk:∀ b,b≠L.ρ id->w'.heap[b]?=w.heap[b]?)
  (wD:∀ ds,w.heap[L.ρ id]?≠some (.deferred ds)) (nh:∀ lp,w.heap[L.ρ id]?≠some (.loop lp))
  (ho:bF cx.yv ⟨fun i=>if i=d then L.ρ id else L.ρ i,fun i=>if i=d then kk else L.κ i⟩ F w' d o) :
  Good cx r m ⟨fun i=>if i=d then L.ρ id else L.ρ i,fun i=>if i=d then kk else L.κ i⟩ F (bm (bm st (.del id)) (.new d o)) a w'/\Tr F w F w':=by
 obtain⟨hF,FR⟩:=hh.heap.own id o0 h0 qk;have tr:Tr F w F w':=.gz NH ht hu (by omega) (fun _=>Nat.le_refl _) hh.heap.fresh fun b _ Vt=>hk b (by rintro rfl;omega);have hC:∀ c,cx.C st.s c->w'.heap[c]?=w.heap[c]?:=fun c hc=>hk c (by rintro rfl;exact FR hc);have hg:∀ i o',get (bm (bm st (.del id)) (.new d o)).heap i=some o'->(i=d/\o'=o)\/(i≠d/\i≠id /\ ∃ o1,get st.heap i=some o1/\o'=Obj.aE (aZ d) o1):=by
  intro i o' hi;simp only[bm,dQ,db,bs,dP]at hi;split at hi
  ·rename_i e;left;exact⟨e,by cases hi;rfl⟩
  ·rename_i e
   right;by_cases dR:i=id
   ·simp[dR]at hi
   ·refine⟨e,dR,?_⟩
    cases h1:get st.heap i with
    | none=>simp[h1]at hi
    | some o1=>simp[h1,dR]at hi;exact⟨o1,rfl,hi.symm⟩
 have key:∀ i o',get (bm (bm st (.del id)) (.new d o)).heap i=some o'->i≠d->aJ ⟨fun i=>if i=d then L.ρ id else L.ρ i,fun i=>if i=d then kk else L.κ i⟩ i o'->i≠id /\ ∃ o1,get st.heap i=some o1/\aJ L i o1:=by
  intro i o' hi ef hb;rcases hg i o' hi with⟨rfl,rfl⟩|⟨_,dR,o1,h1,rfl⟩
  ·exact absurd rfl ef
  ·refine⟨dR,o1,h1,?_⟩
   have:=(cM _ d i o1).1 hb;cases o1<;>simp_all[aJ]
 refine⟨⟨⟨cx.eJ hh.heap.hg tr (fun c hc=>hh.heap.fresh c (by omega)) fun c hc=>⟨hC c hc,rfl⟩,fun c hc=>by rw[cY];exact hh.heap.j6 c hc,fun c hc=>hh.heap.fresh c (by omega),?_,?_,?_⟩,?_,hh.wA,?_,hh.wS,?_,fun i hi=>?_,hh.wm⟩,tr⟩
 ·intro i o' hi
  rcases hg i o' hi with⟨rfl,rfl⟩|⟨ef,dR,o1,h1,rfl⟩
  ·exact ho
  ·refine bF.mono (L:=L) tr i _ (fun j hj=>?_) ⟨by simp[ef],by simp[ef]⟩ (fun hb=>hk _ ?_) (bF.kill d i o1 (hh.heap.obj i o1 h1))
   ·have:j≠d:=by rintro rfl;exact lb j o1 hj
    simp[this]
   ·intro e
    exact dR (hh.heap.inj i id o1 o0 h1 h0 ((cM L d i o1).1 hb) qk e)
 ·intro i o' hi hb
  by_cases g8:i=d
  ·subst g8;simp only[if_true];exact⟨hF,FR⟩
  ·obtain⟨_,o1,h1,nY⟩:=key i o' hi g8 hb
   simp only[g8,if_false];exact hh.heap.own i o1 h1 nY
 ·intro i j o' p hi hj md jv e
  by_cases g8:i=d<;>by_cases xI:j=d
  ·rw[g8,xI]
  ·exfalso
   obtain⟨MD,p1,xJ,zc⟩:=key j p hj xI jv;simp[g8,xI]at e;exact MD (hh.heap.inj j id p1 o0 xJ h0 zc qk e.symm)
  ·exfalso
   obtain⟨MA,p1,xJ,zc⟩:=key i o' hi g8 md;simp[g8,xI]at e;exact MA (hh.heap.inj i id p1 o0 xJ h0 zc qk e)
  ·obtain⟨_,o1,MJ,nY⟩:=key i o' hi g8 md
   obtain⟨_,p1,xJ,zc⟩:=key j p hj xI jv;simp only[g8,xI,if_false]at e;exact hh.heap.inj i j o1 p1 MJ xJ nY zc e
 ·intro s v hs
  simp only[bm,bs]at hs
  cases h1:get st.env s with
  | none=>simp[h1]at hs
  | some v0=>
   simp[h1]at hs;subst hs;obtain⟨x,hx,hr⟩:=hh.env s v0 h1;refine⟨x,hx,aT.mono tr _ x (fun j hj=>?_) (aT.kill d v0 x hr)⟩;have:j≠d:=by rintro rfl;exact iV j v0 hj
   simp[this]
 ·intro b hb
  have:=(hh.pR b hb).1;exact⟨by rw[hk b (by rintro rfl;exact wD _ this)];exact this,(hh.pR b hb).2⟩
 ·intro l hl
  obtain⟨lp,wL⟩:=hh.lk l hl;exact⟨lp,⟨by rw[hk l (by rintro rfl;exact nh _ wL.1.1)];exact wL.1.1,wL.1.2⟩,wL.2⟩
 ·have:i≠d:=by rintro rfl;exact Wn hi
  simp only[this,if_false];exact hh.mT i hi
theorem vm:∀ (l:List D),(inj l).length=l.length
 | []=>rfl
 | x::r=>by simp[inj,vm r]
theorem vj:∀ (l:List (List D)),(cU l).flatten=inj l.flatten
 | []=>rfl
 | x::r=>by
  have:∀ a b:List D,inj (a++b)=inj a++inj b:=fun a b=>by
   induction a with
   | nil=>rfl
   | cons y z ih=>simp[inj,ih]
  rw[List.flatten_cons,this,cU,List.flatten_cons,vj r]
theorem s5(sz:Nat):∀ (n:Nat) (cs:List D),cs.length=n*sz->(jB sz n cs).flatten=cs/\(jB sz n cs).length=n /\ ∀ e∈jB sz n cs,e.length=sz
 | 0,cs,h=>by
  rw[Nat.zero_mul]at h;have:cs = []:=List.length_eq_zero_iff.1 h;subst this;exact⟨rfl,rfl,fun e he=>by cases he⟩
 | n+1,cs,h=>by
  rw[Nat.succ_mul]at h;obtain⟨h1,h2,h3⟩:=s5 sz n (cs.drop sz) (by rw[List.length_drop];omega);rw[jB];refine⟨by rw[List.flatten_cons,h1,List.take_append_drop],by rw[List.length_cons,h2],fun e he=>?_⟩;rcases List.mem_cons.1 he with rfl|he
  ·rw[List.length_take];omega
  ·exact h3 e he
end
theorem oF{n:Nat}{lo hi:Option V}{K:Nat->Nat->Prop}(hk:qA n lo hi K) :
  ∃ l u,K l u/\l<=u/\u<=n /\ ∀ (cap:Nat) (RR:Bool) (lv hv:Option Value) (w:World),n<=cap ->
   (∀ v,lo=some v -> ∃ x,lv=some x /\ ∀ k i,v = .d (.int k i)->x = .int k i)->(lo=none->lv=none)->(∀ v,hi=some v -> ∃ x,hv=some x /\ ∀ k i,v = .d (.int k i)->x = .int k i)->(hi=none->hv=none) ->
   (Instr.sliceBounds RR n cap lv hv none).run P w = .ok (l,u,cap) w:=by
 unfold qA at hk;split at hk
 ·split at hk
  ·refine⟨_,_,hk,Nat.zero_le _,Nat.le_refl _,fun cap RR lv hv w hc h1 h2 h3 h4=>?_⟩
   rw[h2 rfl,h4 rfl];simp[Instr.sliceBounds]
  ·rename_i k i
   obtain⟨hb,hk⟩:=bA hk;simp only[Bool.and_eq_true,decide_eq_true_eq]at hb;refine⟨_,_,hk,by omega,Nat.le_refl _,fun cap RR lv hv w hc h1 h2 h3 h4=>?_⟩;obtain⟨x,rfl,hx⟩:=h1 _ rfl;rw[h4 rfl,hx _ _ rfl];simp[Instr.sliceBounds,Instr.sliceBound,asIntOf,hb.1,hb.2]
  ·exact hk.elim
 ·rename_i k i
  obtain⟨hb,hk⟩:=bA hk;simp only[Bool.and_eq_true,decide_eq_true_eq]at hb;split at hk
  ·refine⟨_,_,hk,Nat.zero_le _,by omega,fun cap RR lv hv w hc h1 h2 h3 h4=>?_⟩
   obtain⟨x,rfl,hx⟩:=h3 _ rfl;rw[h2 rfl,hx _ _ rfl];have V2:i<=(cap:Int):=by omega
   simp[Instr.sliceBounds,Instr.sliceBound,asIntOf,hb.1,V2]
  ·rename_i k' j _
   obtain⟨kR,hk⟩:=bA hk;simp only[Bool.and_eq_true,decide_eq_true_eq]at kR;refine⟨_,_,hk,by omega,by omega,fun cap RR lv hv w hc h1 h2 h3 h4=>?_⟩;obtain⟨x,rfl,hx⟩:=h3 _ rfl;obtain⟨y,rfl,hy⟩:=h1 _ rfl;rw[hx _ _ rfl,hy _ _ rfl];have V2:i<=(cap:Int):=by omega
   have h2:j<=max i 0:=by omega
   simp[Instr.sliceBounds,Instr.sliceBound,asIntOf,hb.1,V2,kR.1,h2]
  ·exact hk.elim
 ·exact hk.elim
theorem D6{σ:Type}{cx:Cx σ}{r:Option Nat}{m:List Nat}{L:Loc}{F:Nat->Nat}{st:St σ}{a:Act}{w:World}(hg:Good cx r m L F st a w)(he:cN e st.env){x:Option Operand}{v:Option V}
  (hx:Bk e x=some v):(∀ u,v=some u -> ∃ y,x.map a.eval=some y/\aT cx.yv L F w u y)/\(v=none->x.map a.eval=none):=by
 cases x with
 | none=>simp only[Bk,Option.some.injEq]at hx;subst hx;exact⟨(fun u hu=>by cases hu),fun _=>rfl⟩
 | some x=>
  simp only[Bk]at hx;split at hx
  ·rename_i u hu
   cases hx;exact⟨fun u' NK=>by cases NK;exact⟨_,rfl,hg.aH (ax he hu)⟩,fun h=>by cases h⟩
  ·cases hx
theorem Fo(hT:bl P T){t:TypeId}{x:Operand}{lo hi mx:Option Operand}(hk:fK T e h dst (.slice t x lo hi mx) K):∃ ws,K ws/\Out P e h ⟨dst,.slice t x lo hi mx,ty,pos,after,guard⟩ ws:=by
 simp only[fK]at hk;split at hk
 ·exact hk.elim
 split at hk;case h_2=>exact hk.elim
 rename_i ti v l u ht hv hl hu;obtain⟨d,tf,dw⟩:=dy hT ht;have Gi:∀ {σ:Type} {cx:Cx σ} {r:Option Nat} {m:List Nat} {L:Loc} {F:Nat->Nat} {st:St σ} {a:Act} {w:World},Good cx r m L F st a w->cN e st.env ->
   (∀ v,l=some v -> ∃ x,lo.map a.eval=some x /\ ∀ k i,v = .d (.int k i)->x = .int k i)/\(l=none->lo.map a.eval=none)/\(∀ v,u=some v -> ∃ x,hi.map a.eval=some x /\ ∀ k i,v = .d (.int k i)->x = .int k i)/\(u=none->hi.map a.eval=none):=by
  intro σ cx r m L F st a w hg he;obtain⟨h1,h2⟩:=D6 hg he hl;obtain⟨h3,h4⟩:=D6 hg he hu;refine⟨fun v hv=>?_,h2,fun v hv=>?_,h4⟩
  ·obtain⟨y,hy,hr⟩:=h1 v hv
   exact⟨y,hy,fun k i e=>by subst e;exact hr⟩
  ·obtain⟨y,hy,hr⟩:=h3 v hv
   exact⟨y,hy,fun k i e=>by subst e;exact hr⟩
 split at hk
 ·rename_i el es dC
  rw[dC]at dw;have:=eo dw.symm;subst this;obtain⟨p,q,hk,FU,RC,bt⟩:=oF (P:=P) hk;obtain⟨cY,hk⟩:=bA hk;refine⟨_,hk,bj (v:=.d (.vs ((es.take q).drop p))) (o:=⟨dst,.slice t x lo hi none,ty,pos,after,guard⟩) fun cx r m L F st a w he hh hg=>?_⟩;obtain⟨a0,len,cap,cF,hlen,kq,nC⟩:=hg.aH (ax he hv);obtain⟨b1,b2,b3,b4⟩:=Gi hg he;have hr:=bt cap true _ _ w (by omega) b1 b2 b3 b4;rw[<- hlen]at hr;unfold Gv at cY;split at cY;case h_2=>cases cY
  rename_i ei iF;refine⟨.slice (if cap=p then a0 else a0.map (·.add (p*ei.size))) (q-p) (cap-p),?_,_,_,_,rfl,by simp;omega,by omega,fun ef=>?_⟩
  ·simp[execOp,Instr.sliceAt,run_underlying tf,Instr.slice,cF,hr,dA hT iF]
  have MI:es ≠ []:=by rintro rfl;simp at ef
  obtain⟨b,off,sz,rfl,zn,zW⟩:=nC MI;have Wz:sz=ei.size:=by
   cases es with
   | nil=>exact absurd rfl MI
   | cons f g=>exact zW.1.symm.trans (da cY)
  have nr:p<q:=by
   rcases Nat.lt_or_ge p q with h1|h1
   ·exact h1
   ·exact absurd (List.drop_eq_nil_of_le (by simp;omega)) ef
  have:¬ cap=p:=by omega
  refine⟨b,off+p*sz,sz,?_,zn,cG.drop p (cG.take q zW)⟩;rw[if_neg this,<- Wz];simp[dY]
 ·rename_i el id sz off len dC
  rw[dC]at dw;have:=eo dw.symm;subst this;obtain⟨p,q,hk,FU,RC,bt⟩:=oF (P:=P) hk;obtain⟨cY,hk⟩:=bA hk;refine⟨_,hk,bj (v:=.sl id sz (off+p) (q-p)) (o:=⟨dst,.slice t x lo hi none,ty,pos,after,guard⟩) fun cx r m L F st a w he hh hg=>?_⟩;obtain⟨a0,cap,cF,kq,zn,hb⟩:=hg.aH (ax he hv);obtain⟨b1,b2,b3,b4⟩:=Gi hg he;have hr:=bt cap true _ _ w (by omega) b1 b2 b3 b4;split at cY;case h_2=>cases cY
  rename_i ei iF;have cY:=da cY;refine⟨.slice (if cap=p then a0 else a0.map (·.add (p*ei.size))) (q-p) (cap-p),?_,_,_,rfl,by omega,zn,?_⟩
  ·simp[execOp,Instr.sliceAt,run_underlying tf,Instr.slice,cF,hr,dA hT iF]
  rcases hb with⟨h0,h1⟩|⟨rfl,hb⟩
  ·exact .inl (by omega)
  ·by_cases YV:cap=p
   ·exact .inl (by omega)
   ·right
    rw[if_neg YV,<- cY];refine⟨by simp[dY,Nat.add_mul],?_⟩;have:off+p+(cap-p)=off+cap:=by omega
    rw[this];exact hb
 ·rename_i el dC
  rw[dC]at dw;have:=eo dw.symm;subst this;obtain⟨p,q,hk,FU,RC,bt⟩:=oF (P:=P) hk;obtain⟨cY,hk⟩:=bA hk;refine⟨_,hk,bj (v:=.d .nils) (o:=⟨dst,.slice t x lo hi none,ty,pos,after,guard⟩) fun cx r m L F st a w he hh hg=>?_⟩;have cF:a.eval x = .slice none 0 0:=hg.aH (ax he hv);obtain⟨b1,b2,b3,b4⟩:=Gi hg he;have hr:=bt 0 true _ _ w (by omega) b1 b2 b3 b4;have wN:p=0:=by omega
  have RB:q=0:=by omega
  subst wN RB;obtain⟨ii,dd,Zb,ue,_⟩:=hT t ti ht;refine⟨.slice none 0 0,?_,rfl⟩;have cY:∃ n,(sizeOf el).run P w = .ok n w:=by
   split at cY
   ·rename_i ei iF;exact⟨_,dA hT iF⟩
   ·cases cY
  obtain⟨n,hn⟩:=cY;simp[execOp,Instr.sliceAt,run_underlying tf,Instr.slice,cF,hr,hn]
 ·rename_i s dC
  rw[dC]at dw;have:=im dw.symm;subst this;obtain⟨p,q,hk,FU,RC,bt⟩:=oF (P:=P) hk;refine⟨_,hk,bj (v:=.d (.str (s.extract p q))) (o:=⟨dst,.slice t x lo hi none,ty,pos,after,guard⟩) fun cx r m L F st a w he hh hg=>?_⟩;have cF:=km hg he hv;obtain⟨b1,b2,b3,b4⟩:=Gi hg he;have hr:=bt s.size false _ _ w (Nat.le_refl _) b1 b2 b3 b4;exact⟨.string (s.extract p q),by simp[execOp,Instr.sliceAt,run_underlying tf,Instr.slice,cF,hr],rfl⟩
 ·rename_i n el id dC
  rw[dC]at dw;have:=ek dw.symm;subst this;split at hk;case h_2=>exact hk.elim
  rename_i ei cs d iF Mj;obtain⟨p,q,hk,FU,RC,bt⟩:=oF (P:=P) hk;obtain⟨mE,iQ⟩:=bA hk;clear hk;simp only[Bool.and_eq_true]at mE;have wN:=da mE.1;have xF:=da mE.2.1;have zn:0<ei.size:=Nat.le_of_ble_eq_true mE.2.2;subst wN;refine⟨_,iQ,?_⟩;intro σ cx r m L F st a w he hh hg hd;have cF:a.eval x = .pointer (some ⟨L.ρ id,0,none⟩):=hg.aH (ax he hv);obtain⟨b1,b2,b3,b4⟩:=Gi hg he;have hr:=bt n false _ _ w (Nat.le_refl _) b1 b2 b3 b4;have h0:=hh _ _ Mj;obtain⟨c,E,hc,SG⟩:=hg.heap.obj id _ h0;have SG:aj cx.yv L F w (inj cs) c.toList:=SG;have NC:c.toList.length=cs.length:=by
   rw[SG.length,vm]
  obtain⟨f1,f2,f3⟩:=s5 ei.size n cs xF;have ti:∀ l:List (List D),(cU l).length=l.length:=fun l=>by rw[cq,List.length_map]
  have Cj:c.size=n*ei.size:=by rw[<- xF,<- NC];simp
  obtain⟨g1,tr⟩:=hg.J9 (d:=d) c.size (hg.dN (hd d rfl)) h0 trivial (w':=w) (o:=.arr ei.size (.dd (jB ei.size n cs))) rfl rfl rfl rfl (fun _ _=>rfl) (by rw[hc];intro ds e;cases e) (by rw[hc];intro lp e;cases e)
   ⟨zn,fun e he=>(by
    have he:e∈cU (jB ei.size n cs):=he;rw[cq]at he;obtain⟨e0,h1,rfl⟩:=List.mem_map.1 he;rw[vm];exact f3 e0 h1),.inr ⟨c,E,by simpa using hc,by simp,by
     show(cU (jB ei.size n cs)).length*ei.size<=_;rw[ti,f2,Cj];exact Nat.le_refl _,by
     show aj _ _ _ _ (cU (jB ei.size n cs)).flatten _;rw[vj,f1];have e1:c.toList.take ((a7.dd (jB ei.size n cs)).bo.length*ei.size)=c.toList:=by
      show c.toList.take ((cU (jB ei.size n cs)).length*ei.size)=_;rw[ti,f2,List.take_of_length_le (by rw[NC,xF];exact Nat.le_refl _)]
     rw[e1];exact aj.inj.2 (aj.inj.1 SG)⟩⟩
  have IC:n=0\/0<n:=by omega
  refine⟨_,w,.value (.slice (some (if n=0 then (⟨L.ρ id,0,none⟩:Addr) else (⟨L.ρ id,0,none⟩:Addr).add (0*ei.size))) (q-0) (n-0)),?_,.inl rfl,_,F,g1.set (hd d rfl) ?_,tr⟩
  ·simp[execOp,Instr.sliceAt,run_underlying tf,cF,Instr.sureAddr,hr,dA hT iF]
  ·refine⟨_,n,rfl,RC,zn,.inr ⟨?_,?_⟩⟩
   ·simp[dY]
   ·simp[Cj]
 ·exact hk.elim
end
mutual
theorem JK{i:Nat}:∀ {v:V},vC i v=false->¬ gm v i
 | .d _,_=>fun h=>h
 | .agg cs,h=>kz (l:=cs) h
 | .tup cs,h=>kz (l:=cs) h
 | .clo _ cs,h=>kz (l:=cs) h
 | .ifc _ cs,h=>kz (l:=cs) h
 | .ptr j _,h=>fun e=>by have e:j=i:=e;subst e;simp[vC]at h
 | .ep j _ _ _,h=>fun e=>by have e:j=i:=e;subst e;simp[vC]at h
 | .sl j _ _ _,h=>fun e=>by have e:j=i:=e;subst e;simp[vC]at h
 | .mp j,h=>fun e=>by have e:j=i:=e;subst e;simp[vC]at h
 | .it j,h=>fun e=>by have e:j=i:=e;subst e;simp[vC]at h
 | .yld,_=>fun h=>h
 | .unk,_=>fun h=>h
theorem kz{i:Nat}:∀ {l:List V},mO i l=false->¬ bz l i
 | [],_=>fun h=>h
 | v::r,h=>by
  simp only[mO,Bool.or_eq_false_iff]at h;exact fun e=>e.elim (JK h.1) (kz h.2)
end
theorem eb(l:List (List D)):(cU l).flatten=inj l.flatten:=by
 induction l with
 | nil=>rfl
 | cons x r ih=>simp[cU,ih,mK]
theorem Cb{i:Nat}{c:Cells}(h:c.free i=true):¬ bz c.bo i:=by
 cases c with
 | dd l=>exact ee l i
 | vv l=>exact kz (by simpa[Cells.free,Cells.bo]using h)
theorem nP{i:Nat}{c:a7}(h:c.free i=true):¬ bz c.bo.flatten i:=by
 cases c with
 | dd l=>show ¬ bz (cU l).flatten i;rw[eb];exact ee _ i
 | vv l=>exact kz (by simpa[a7.free,a7.bo]using h)
section
variable {P : Program} {T : dV} {e : Env} {h : aq} {dst : Option Nat} {K : List Wr -> Prop} {ty : TypeId} {pos : String} {after : Array Edge} {guard : Option (Nat × Bool)}
theorem BB{F:Nat->Nat}{w:World}{yv:Option Nat}{L:Loc}:∀ {r:List V} {k:IntKind} {x:Int} {v:D} {l:List Value},E6 k x r=some v->aj yv L F w r l ->
  ∃ y,(l.foldlM Builtin.min2 (.int k x)).run P w = .ok y w/\bD F w v y
 | [],k,x,v,l,h,hl=>by
  simp only[E6,Option.some.injEq]at h;subst h;have:l = []:=hl;subst this;exact⟨.int k x,by simp,rfl⟩
 | c::r,k,x,v,l,h,hl=>by
  obtain⟨y,l',rfl,hc,kQ⟩:=hl
  cases c with
  | d c=>
   cases c<;>simp only[E6]at h<;>first|(cases h;done)|skip
   rename_i k' b;have hc:y = .int k' b:=hc;subst hc;obtain⟨z,hz,MW⟩:=BB h kQ;refine⟨z,?_,MW⟩;have:(if b<x then b else x)=min x b:=by simp only[Int.min_def];split<;>split<;>omega
   simp[Builtin.min2,this,hz]
  | _=>simp[E6]at h
theorem BA{F:Nat->Nat}{w:World}{yv:Option Nat}{L:Loc}:∀ {r:List V} {k:IntKind} {x:Int} {v:D} {l:List Value},E5 k x r=some v->aj yv L F w r l ->
  ∃ y,(l.foldlM Builtin.max2 (.int k x)).run P w = .ok y w/\bD F w v y
 | [],k,x,v,l,h,hl=>by
  simp only[E5,Option.some.injEq]at h;subst h;have:l = []:=hl;subst this;exact⟨.int k x,by simp,rfl⟩
 | c::r,k,x,v,l,h,hl=>by
  obtain⟨y,l',rfl,hc,kQ⟩:=hl
  cases c with
  | d c=>
   cases c<;>simp only[E5]at h<;>first|(cases h;done)|skip
   rename_i k' b;have hc:y = .int k' b:=hc;subst hc;obtain⟨z,hz,MW⟩:=BA h kQ;refine⟨z,?_,MW⟩;have:(if x<b then b else x)=max x b:=by simp only[Int.max_def];split<;>split<;>omega
   simp[Builtin.max2,this,hz]
  | _=>simp[E5]at h
theorem JR{args:Array Operand}{tys:Array TypeId}(hk:dZ T e h dst .min args tys K):∃ ws,K ws/\Out P e h ⟨dst,.call ⟨.builtin .min,args,tys⟩,ty,pos,after,guard⟩ ws:=by
 simp only[dZ]at hk;split at hk;case h_2=>exact hk.elim
 rename_i k x r hr;split at hk;case h_2=>exact hk.elim
 rename_i v hm;refine⟨_,hk,bj (v:=.d v) (o:=⟨dst,.call ⟨.builtin .min,args,tys⟩,ty,pos,after,guard⟩) fun cx r' m L F st a w he hh hg=>?_⟩;obtain⟨y,l',cF,hy,kQ⟩:=hg.cE (ka he hr);have hy:y = .int k x:=hy;subst hy;obtain⟨z,hz,MW⟩:=BB (P:=P) hm kQ;have Mo:(args.map a.eval).toList = .int k x::l':=by simpa using cF
 have Hb:(Builtin.min_ tys ty (args.map a.eval)).run P w = .ok z w:=by
  simp only[Builtin.min_,Mo];exact hz
 exact⟨z,by simp[execOp,resolve,invoke,builtin,Hb],MW⟩
theorem JQ{args:Array Operand}{tys:Array TypeId}(hk:dZ T e h dst .max args tys K):∃ ws,K ws/\Out P e h ⟨dst,.call ⟨.builtin .max,args,tys⟩,ty,pos,after,guard⟩ ws:=by
 simp only[dZ]at hk;split at hk;case h_2=>exact hk.elim
 rename_i k x r hr;split at hk;case h_2=>exact hk.elim
 rename_i v hm;refine⟨_,hk,bj (v:=.d v) (o:=⟨dst,.call ⟨.builtin .max,args,tys⟩,ty,pos,after,guard⟩) fun cx r' m L F st a w he hh hg=>?_⟩;obtain⟨y,l',cF,hy,kQ⟩:=hg.cE (ka he hr);have hy:y = .int k x:=hy;subst hy;obtain⟨z,hz,MW⟩:=BA (P:=P) hm kQ;have Mo:(args.map a.eval).toList = .int k x::l':=by simpa using cF
 have Hb:(Builtin.max_ tys ty (args.map a.eval)).run P w = .ok z w:=by
  simp only[Builtin.max_,Mo];exact hz
 exact⟨z,by simp[execOp,resolve,invoke,builtin,Hb],MW⟩
theorem bE.at{F:Nat->Nat}{w:World}:∀ {b0:List (D×D)} {es:List MapEntry} {i:Nat} {e:MapEntry},bE F w b0 es->es[i]?=some e -> ∃ k u,b0[i]?=some (k,u)/\bD F w k e.key/\bD F w u e.val
 | [],es,i,e,hr,h=>by
  have:es = []:=hr;subst this;simp at h
 | (k,u)::r,es,0,e,hr,h=>by
  obtain⟨x,l,rfl,h1,h2,_⟩:=hr;simp at h;subst h;exact⟨k,u,rfl,h1,h2⟩
 | (k,u)::r,es,i+1,e,hr,h=>by
  obtain⟨x,l,rfl,_,_,h3⟩:=hr;simpa using bE.at h3 (by simpa using h)
theorem bE.get{F:Nat->Nat}{w:World}:∀ {b0:List (D×D)} {es:List MapEntry},bE F w b0 es->es.length=b0.length
 | [],es,h=>by rw[show es = [] from h];rfl
 | (k,v)::r,es,h=>by
  obtain⟨en,es',rfl,_,_,hr⟩:=h;simp[bE.get hr]
theorem JP(hT:bl P T){args:Array Operand}{tys:Array TypeId}(hk:dZ T e h dst .len args tys K):∃ ws,K ws/\Out P e h ⟨dst,.call ⟨.builtin .len,args,tys⟩,ty,pos,after,guard⟩ ws:=by
 simp only[dZ]at hk;split at hk;case h_2=>exact hk.elim
 rename_i x t rest bR AX;split at hk;case h_2=>exact hk.elim
 rename_i ti v ht hv;obtain⟨d,tf,dw⟩:=dy hT ht;have h0:∀ (a:Act),(args.map a.eval)[0]?=some (a.eval x):=by
  intro a;have:args[0]?=some x:=by
   have:args.toList[0]?=some x:=by rw[bR];rfl
   simpa using this
  simp[this]
 have RH:tys[0]?=some t:=by
  have:tys.toList[0]?=some t:=by rw[AX];rfl
  simpa using this
 have bt:∀ (a:Act) (w:World) v,(Builtin.len_ tys ty (args.map a.eval)).run P w = .ok v w->(execOp a.eval ⟨dst,.call ⟨.builtin .len,args,tys⟩,ty,pos,after,guard⟩).run P w = .ok (.value v) w:=fun a w v hv=>by
  simp[execOp,resolve,invoke,builtin,hv]
 have sl:∀ (n:Nat) (el:TypeId),d = .slice el->(∀ (yv:Option Nat) (L:Loc) (F:Nat->Nat) (w:World) (y:Value),aT yv L F w v y -> ∃ b c,y = .slice b n c)->K (aO dst (.d (.int .i64 n))) ->
   ∃ ws,K ws/\Out P e h ⟨dst,.call ⟨.builtin .len,args,tys⟩,ty,pos,after,guard⟩ ws:=by
  intro n el hd hr hk;subst hd;refine⟨_,hk,bj (v:=.d (.int .i64 n)) (o:=⟨dst,.call ⟨.builtin .len,args,tys⟩,ty,pos,after,guard⟩) fun cx r' m L F st a w he hh hg=>?_⟩;obtain⟨b,c,cF⟩:=hr _ _ _ _ _ (hg.aH (ax he hv));exact⟨.int .i64 n,bt a w _ (by simp[Builtin.len_,RH,h0,run_underlying tf,cF,goInt]),rfl⟩
 split at hk
 ·rename_i el es dC
  rw[dC]at dw;exact sl es.length el (eo dw.symm) (fun yv L F w y hr=>by obtain⟨b,n,c,rfl,rfl,_⟩:=hr;exact⟨b,c,rfl⟩) hk
 ·rename_i el dC
  rw[dC]at dw;exact sl 0 el (eo dw.symm) (fun yv L F w y hr=>by have hr:y = .slice none 0 0:=hr;exact⟨none,0,hr⟩) hk
 ·rename_i el id sz off n dC
  rw[dC]at dw;exact sl n el (eo dw.symm) (fun yv L F w y hr=>by obtain⟨b,c,rfl,_⟩:=hr;exact⟨b,c,rfl⟩) hk
 ·rename_i s dC
  rw[dC]at dw;have:=im dw.symm;subst this;refine⟨_,hk,bj (v:=.d (.int .i64 s.size)) (o:=⟨dst,.call ⟨.builtin .len,args,tys⟩,ty,pos,after,guard⟩) fun cx r' m L F st a w he hh hg=>?_⟩;have cF:=km hg he hv;exact⟨.int .i64 s.size,bt a w _ (by simp[Builtin.len_,RH,h0,run_underlying tf,cF,goInt]),rfl⟩
 ·rename_i n el dC
  rw[dC]at dw;have:=ek dw.symm;subst this;refine⟨_,hk,bj (v:=.d (.int .i64 n)) (o:=⟨dst,.call ⟨.builtin .len,args,tys⟩,ty,pos,after,guard⟩) fun cx r' m L F st a w he hh hg=>?_⟩;exact⟨.int .i64 n,bt a w _ (by simp[Builtin.len_,RH,h0,run_underlying tf,goInt]),rfl⟩
 ·rename_i mk me id dC
  rw[dC]at dw;have:=rm dw.symm;subst this;split at hk;case h_2=>exact hk.elim
  rename_i b0 dR;refine⟨_,hk,bj (v:=.d (.int .i64 b0.length)) (o:=⟨dst,.call ⟨.builtin .len,args,tys⟩,ty,pos,after,guard⟩) fun cx r' m L F st a w he hh hg=>?_⟩;have cF:a.eval x = .map (some (L.ρ id)):=hg.aH (ax he hv);obtain⟨en,c,hb,hr,_⟩:=hg.heap.obj id _ (hh _ _ dR);have hl:en.size=b0.length:=by simpa using bE.get hr
  exact⟨.int .i64 b0.length,bt a w _ (by simp[Builtin.len_,RH,h0,run_underlying tf,cF,getObj,Sem.run,hb,goInt,hl]),rfl⟩
 ·rename_i mk me b0 dC
  rw[dC]at dw;have:=rm dw.symm;subst this;refine⟨_,hk,bj (v:=.d (.int .i64 b0.length)) (o:=⟨dst,.call ⟨.builtin .len,args,tys⟩,ty,pos,after,guard⟩) fun cx r' m L F st a w he hh hg=>?_⟩;obtain⟨b,en,c,cF,_,hb,hr⟩:=hg.aH (ax he hv);have hl:en.size=b0.length:=by simpa using bE.get hr
  exact⟨.int .i64 b0.length,bt a w _ (by simp[Builtin.len_,RH,h0,run_underlying tf,cF,getObj,Sem.run,hb,goInt,hl]),rfl⟩
 ·exact hk.elim
theorem aj.kC{yv:Option Nat}{L L':Loc}{F:Nat->Nat}{w w':World}(tr:Tr F w F w'){id:Nat}(hL:∀ i,i≠id->L'.ρ i=L.ρ i/\L'.κ i=L.κ i){cs:List V}{l:List Value}(hf:¬ bz cs id)(h:aj yv L F w cs l):aj yv L' F w' cs l:=
 aj.mono tr cs l (fun i hi=>hL i (by rintro rfl;exact hf hi)) h
theorem vO{op:Op}{d:Nat}{c:Cells}(hf:¬ bz c.bo d)
  (hr:∀ {σ:Type} (cx:Cx σ) (r:Option Nat) (m:List Nat) (L:Loc) (F:Nat->Nat) (st:St σ) (a:Act) (w:World),cN e st.env->cN h st.heap->Good cx r m L F st a w ->
   ∃ (l:Array Value) (t:TypeId),(execOp a.eval ⟨some d,op,ty,pos,after,guard⟩).run P w = .ok (.value (.pointer (some ⟨w.heap.size,0,none⟩))) (w.alloc (.cells l t))/\aj cx.yv L F w c.bo l.toList) :
  Out P e h ⟨some d,op,ty,pos,after,guard⟩ [.new d (.box c),.set d (.ptr d 0)]:=by
 intro σ cx r m L F st a w he hh hg hd;obtain⟨l,t,bt,hl⟩:=hr cx r m L F st a w he hh hg;have tr:Tr F w F (w.alloc (.cells l t)):=Tr.alloc hg.heap.fresh _;have pL:=hg.new d 0 (.box c) (.cells l t) (hg.dN (hd d rfl)) ⟨l,t,(by show(w.alloc _).heap[if d=d then w.heap.size else L.ρ d]?=_;rw[if_pos rfl];exact heap_alloc_new w _),aj.kC tr (fun i hi=>by simp[hi]) hf hl⟩;exact⟨_,_,_,bt,.inl rfl,_,F,pL.set (v:=.ptr d 0) (hd d rfl) (by show Value.pointer _=Value.pointer _;simp),tr⟩
theorem Fg(hT:bl P T){t:TypeId}(hk:fK T e h dst (.alloc t) K):∃ ws,K ws/\Out P e h ⟨dst,.alloc t,ty,pos,after,guard⟩ ws:=by
 simp only[fK]at hk;split at hk;case h_2=>exact hk.elim
 rename_i ti d ht;split at hk;case h_3=>exact hk.elim
 ·rename_i hz
  obtain⟨hlen,hk⟩:=bA hk;obtain⟨i,de,hi,fB,_,_,_,_,_,Cu⟩:=hT t ti ht;obtain⟨zv,E0,wP,_⟩:=Cu _ hz;refine⟨_,hk,?_⟩;intro σ cx r m L F st a w he hh hg hd;have tr:Tr F w F (w.alloc (.cells zv.cells t)):=Tr.alloc hg.heap.fresh _;have pL:=hg.new d 0 (.tb t [.d .nilp,.d .nils]) (.cells zv.cells t) (hg.dN (hd d rfl)) ⟨zv.cells,(by show(w.alloc _).heap[if d=d then w.heap.size else L.ρ d]?=_;rw[if_pos rfl];exact heap_alloc_new w _),aj.inj.2 (iK (F:=F) wP)⟩;exact⟨.pointer (some ⟨w.heap.size,0,none⟩),_,_,by simp[execOp,Instr.alloc,zeroValue,typeInfo,hi,E0,newVar,newRow],.inl rfl,_,F,pL.set (v:=.ptr d 0) (hd d rfl) (by show Value.pointer _=Value.pointer _;simp),tr⟩
 rename_i z _ hz;obtain⟨hlen,hk⟩:=bA hk;obtain⟨i,de,hi,fB,_,_,_,_,_,Cu⟩:=hT t ti ht;obtain⟨zv,E0,wP,_⟩:=Cu z hz;refine⟨_,hk,vO (c:=.dd z) (ee z d) fun cx r m L F st a w he hh hg=>⟨zv.cells,t,?_,aj.inj.2 (iK wP)⟩⟩;simp[execOp,Instr.alloc,zeroValue,typeInfo,hi,E0,newVar,newRow]
theorem JN{t:TypeId}{x:Operand}(hk:fK T e h dst (.box t x) K):∃ ws,K ws/\Out P e h ⟨dst,.box t x,ty,pos,after,guard⟩ ws:=by
 simp only[fK]at hk;split at hk;case h_2=>exact hk.elim
 rename_i v d hv;obtain⟨hc,hk⟩:=bA hk;simp only[Bool.and_eq_true]at hc;refine⟨_,hk,vO (Cb hc.2) fun cx r m L F st a w he hh hg=>⟨(a.eval x).cells,t,?_,(hg.aH (ax he hv)).cells hc.1⟩⟩;simp[execOp,Instr.box,newVar,newRow]
end
end Go.PX
namespace Go.PX
open Go.RowKit
section
variable {yv : Option Nat} {L : Loc} {F : Nat -> Nat} {w : World}
theorem aT.qd{a:V}{v:Value}(h:aT yv L F w a v):aj yv L F w a.cells.bo v.cells.toList:=by
 by_cases hs:a.cells.ok=true
 ·exact h.cells hs
 ·cases a with
  | d x=>
   cases x with
   | agg cs=>
    obtain⟨l,rfl,hl⟩:=h;exact aj.inj.2 hl
   | tup cs=>
    obtain⟨l,rfl,hl⟩:=h;exact⟨.tuple l,[],rfl,⟨l,rfl,hl⟩,rfl⟩
   | _=>exact absurd rfl hs
  | agg cs=>
   obtain⟨l,rfl,hl⟩:=h;exact hl
  | tup cs=>
   obtain⟨l,rfl,hl⟩:=h;exact⟨.tuple l,[],rfl,⟨l,rfl,hl⟩,rfl⟩
  | _=>exact absurd rfl hs
theorem Cells.m4(c:Cells)(off:Nat)(x:Cells):(c.gJ off x).bo=c.bo.take off++x.bo++c.bo.drop (off+x.bo.length):=by
 cases c<;>cases x<;>simp[Cells.gJ,Cells.bo,mK,vn,vk,eh]
theorem lK{α:Type}{cs l:List α}{off i:Nat}(h:off<=cs.length)(h1:off<=i)(h2:i<off+l.length):(cs.take off++l++cs.drop (off+l.length))[i]?=l[i-off]?:=by
 rw[List.append_assoc,List.getElem?_append_right (by simp;omega),List.getElem?_append_left (by simp;omega)];simp[Nat.min_eq_left h]
theorem kL{α:Type}{cs l:List α}{off i:Nat}(h:off+l.length<=cs.length)(h1:i<off\/off+l.length<=i):(cs.take off++l++cs.drop (off+l.length))[i]?=cs[i]?:=by
 rcases h1 with h1|h1
 ·rw[List.append_assoc,List.getElem?_append_left (by simp;omega),List.getElem?_take_of_lt h1]
 ·rw[List.getElem?_append_right (by simp;omega),List.getElem?_drop]
  congr 1
  simp;omega
theorem fT{α:Type}{cs l:List α}{off:Nat}(h:off+l.length<=cs.length):(cs.take off++l++cs.drop (off+l.length)).length=cs.length:=by
 simp;omega
theorem aj.gJ{cs ds:List V}{l k:List Value}(off:Nat)(h:aj yv L F w cs l)(g:aj yv L F w ds k) :
  aj yv L F w (cs.take off++ds++cs.drop (off+ds.length)) (l.take off++k++l.drop (off+k.length)):=by
 have:=g.length;rw[this];exact((h.take off).append g).append (h.drop _)
theorem a7.Gt(x:Cells)(c:a7):(c.cons x).bo=x.bo::c.bo:=by
 cases x<;>cases c<;>rfl
theorem qW{n:Nat}:∀ {l:List (Nat×V)} {i:Nat} {es:a7},qV n i l=some es->es.bo=l.map (fun p=>p.2.cells.bo)/\l.map (·.1)=List.range' i l.length /\ ∀ p∈l,p.2.cells.bo.length=n
 | [],i,es,h=>by simp only[qV,Option.some.injEq]at h;subst h;simp[a7.bo,cU]
 | (j,v)::r,i,es,h=>by
  simp only[qV]at h;split at h;case h_2=>cases h
  rename_i es' hj hn hr;cases h;have hj:=da hj;have hn:=da hn;rw[Cells.iU]at hn;obtain⟨h1,h2,h3⟩:=qW hr;refine⟨by rw[a7.Gt,h1];rfl,by simp[h2,hj,List.range'_succ],fun p hp=>?_⟩;rcases List.mem_cons.1 hp with rfl|hp
  ·exact hn
  ·exact h3 p hp
theorem uV{sz:Nat}:∀ {xs:List V} {vs:List Value},aj yv L F w xs vs->(∀ x∈xs,x.cells.bo.length=sz)->aj yv L F w (xs.flatMap (·.cells.bo)) (vs.flatMap fun v=>v.cells.toList) /\ ∀ v∈vs,v.cells.size=sz
 | [],vs,h,_=>by
  have:vs = []:=h;subst this;exact⟨rfl,by simp⟩
 | x::xs,vs,h,hs=>by
  obtain⟨v,l,rfl,hx,hl⟩:=h;obtain⟨h1,h2⟩:=uV hl fun y hy=>hs y (List.mem_cons_of_mem _ hy);refine⟨by simpa using hx.qd.append h1,fun u hu=>?_⟩;rcases List.mem_cons.1 hu with rfl|hu
  ·have:=hx.qd.length
   rw[hs x (List.mem_cons_self ..)]at this;simpa using this
  ·exact h2 u hu
theorem ss{n:Nat}:∀ {l:List (List V)},oX n l=true -> ∀ e∈l,e.length=n/\cf e=true
 | [],_,_,he=>by cases he
 | x::r,h,e,he=>by
  simp only[oX]at h;split at h;case h_2=>cases h
  rename_i h1 h2;rcases List.mem_cons.1 he with rfl|he
  ·exact⟨da h1,h2⟩
  ·exact ss h e he
theorem xN{n:Nat}:∀ {l:List (List D)},fE n l=true->oX n (cU l)=true
 | [],_=>rfl
 | x::r,h=>by
  simp only[fE]at h;split at h;case h_2=>cases h
  rename_i h1 h2;simp only[cU,oX,eh,h1,lz,h2];exact xN h
theorem yV{n:Nat}{es:a7}(h:es.ok n=true):∀ e∈es.bo,e.length=n/\cf e=true:=by
 cases es with
 | dd l=>exact ss (xN h)
 | vv l=>exact ss h
theorem lM:∀ {l m:List V},cf l=true->cf m=true->cf (l++m)=true
 | [],_,_,h=>h
 | x::r,m,h,k=>by
  simp only[cf,Bool.and_eq_true]at h;simp[cf,h.1,lM h.2 k]
theorem fy:∀ {l:List (List V)},(∀ e∈l,cf e=true)->cf l.flatten=true
 | [],_=>rfl
 | x::r,h=>by
  rw[List.flatten_cons];exact lM (h x (List.mem_cons_self ..)) (fy fun e he=>h e (List.mem_cons_of_mem _ he))
end
section
variable {P : Program} {T : dV} {e : Env} {h : aq} {dst : Option Nat} {K : List Wr -> Prop} {ty : TypeId} {pos : String} {after : Array Edge} {guard : Option (Nat × Bool)}
theorem ld{σ:Type}{cx:Cx σ}{r:Option Nat}{m:List Nat}{L:Loc}{F:Nat->Nat}{st:St σ}{a:Act}{w:World}(hg:Good cx r m L F st a w)(he:cN e st.env):∀ {ps:List (Nat×Operand)} {l:List (Nat×V)},partsOf e ps=some l ->
  l.map (·.1)=ps.map (·.1)/\aj cx.yv L F w (l.map (·.2)) (ps.map fun p=>a.eval p.2)
 | [],l,hp=>by simp only[partsOf,Option.some.injEq]at hp;subst hp;exact⟨rfl,rfl⟩
 | (i,x)::r,l,hp=>by
  simp only[partsOf]at hp;split at hp
  ·rename_i v l' hv hl
   cases hp;obtain⟨h1,h2⟩:=ld hg he hl;exact⟨by simp[h1],_,_,rfl,hg.aH (ax he hv),h2⟩
  ·cases hp
theorem kc(hT:bl P T){t:TypeId}{ei:pF}(h:fH T t=some ei):∃ el,P.underlying t=some (.slice el)/\T.get el=some ei:=by
 unfold fH at h;split at h;case h_2=>cases h
 rename_i ti fk;split at h;case h_2=>cases h
 rename_i el hk;obtain⟨d,hu,dw⟩:=dy hT fk;rw[hk]at dw;exact⟨el,by rw[hu,eo dw.symm],h⟩
theorem qU(hT:bl P T){el:TypeId}{ei:pF}(iF:T.get el=some ei)(h:mu ei=true) :
  ∃ i z,P.info? el=some i/\i.zero=some z/\0<ei.size/\0<ei.bytes/\ei.size=i.size/\ei.bytes=i.bytes/\z.cells.size=i.size:=by
 obtain⟨i,d,hi,hd,cY,DL,_,_,_,hz⟩:=hT el ei iF;simp only[mu,Bool.and_eq_true]at h;obtain⟨⟨h1,h2⟩,h3⟩:=h;unfold Dn at h3;split at h3;case h_2=>cases h3
 rename_i z Cu;obtain⟨zv,E0,wP,_⟩:=hz z Cu;have hl:=(iK (F:=fun _=>0) (w:=default) wP).length;have h1:=vD h1;have h2:=vD h2;have h3:=da h3;exact⟨i,zv,hi,E0,by omega,by omega,cY,DL,by rw[<- cY,<- h3,<- hl];simp⟩
theorem vM(hT:bl P T){t:TypeId}{n:Nat}{ps:Array (Nat×Operand)}(hk:fK T e h dst (.buildSlice t n ps) K):∃ ws,K ws/\Out P e h ⟨dst,.buildSlice t n ps,ty,pos,after,guard⟩ ws:=by
 simp only[fK]at hk;split at hk;case h_2=>exact hk.elim
 rename_i l ei d hl hs;obtain⟨hc,hk⟩:=bA hk;simp only[Bool.and_eq_true]at hc;obtain⟨⟨zX,eg⟩,kp⟩:=hc;have zX:=da zX;have kp:=lO kp;split at hk;case h_2=>exact hk.elim
 rename_i es nC;obtain⟨hc,hk⟩:=bA hk;simp only[Bool.and_eq_true]at hc;obtain⟨VU,gQ⟩:=hc;obtain⟨el,hu,iF⟩:=kc hT hs;obtain⟨ie,z,g8,WQ,cY,DL,ea,qm,K9⟩:=qU hT iF eg;obtain⟨Iz,u7,YX⟩:=qW nC;have YZ:=yV VU;refine⟨_,hk,?_⟩;intro σ cx r m L F st a w he hh hg hd;obtain⟨xJ,Rv⟩:=ld hg he hl
 let vs:=ps.toList.map fun p=>a.eval p.2
 have nr:ps.toList.length=n:=by
  have:=congrArg List.length xJ;simp only[List.length_map]at this;omega
 have DT:vs.length=n:=by simpa[vs]using nr
 have xF:∀ x∈l.map (·.2),x.cells.bo.length=ei.size:=by
  intro x hx;obtain⟨p,hp,rfl⟩:=List.mem_map.1 hx;exact YX _ hp
 obtain⟨xH,NN⟩:=uV Rv xF;have ve:(ps.map fun(i,x)=>(i,a.eval x)).toList=(vs.zipIdx 0).map fun x=>(x.2,x.1):=by
  have h1:ps.toList.map (·.1)=List.range' 0 n:=by rw[<- xJ,u7,zX]
  apply List.ext_getElem?;intro k;simp only[Array.toList_map,List.getElem?_map,List.getElem?_zipIdx,vs]
  cases hk:ps.toList[k]? with
  | none=>simp
  | some p=>
   have h2:(ps.toList.map (·.1))[k]?=some p.1:=by simp[List.getElem?_map,hk]
   have XD:k<n:=by
    have:=(List.getElem?_eq_some_iff.1 hk).1;omega
   rw[h1,List.getElem?_range' XD]at h2;simp at h2;simp[h2]
 let cells:Array Value:=(vs.flatMap fun v=>v.cells.toList).toArray
 have Xw:(l.map (·.2)).flatMap (·.cells.bo)=es.bo.flatten:=by rw[Iz,List.flatMap_def,List.map_map];rfl
 have tL:es.bo.length=n:=by rw[Iz];simp[zX]
 have gf:cK ei.size es.bo:=fun e he=>(YZ e he).1;have qn:cells.size=n*ei.size:=by
  have h1:=xH.length;rw[Xw,jk gf,tL]at h1;simpa[cells,vs]using h1
 have bt:(execOp a.eval ⟨some d,.buildSlice t n ps,ty,pos,after,guard⟩).run P w = .ok (.value (.slice (some ⟨w.heap.size,0,none⟩) n n)) (w.alloc (.cells cells el)):=by
  have:(Instr.buildSlice t n (ps.map fun(i,x)=>(i,a.eval x))).run P w = .ok (.slice (some ⟨w.heap.size,0,none⟩) n n) (w.alloc (.cells cells el)):=by
   rcases Nat.eq_zero_or_pos n with h0|h0
   ·subst h0
    have ZJ:vs = []:=List.length_eq_zero_iff.1 DT;have Jt:ps = #[]:=by simpa using nr
    subst Jt;have Q3:cells = #[]:=by simp[cells,ZJ]
    rw[Q3];simp[Instr.buildSlice,run_underlying hu,sizeOf,typeInfo,g8,Instr.fill,newRow]
    congr 2
    apply Array.eq_empty_of_size_eq_zero;simp
   ·refine run_buildSlice w t el n _ cells ie z hu g8 WQ (by rw[<- ea];omega) (by rw[<- ea];exact Nat.ne_of_gt (Nat.mul_pos h0 cY)) ?_
    rw[ve,<- ea];refine Great.fill_whole cY vs _ NN ?_;simp[DT]
  simp[execOp,this]
 have tr:Tr F w F (w.alloc (.cells cells el)):=Tr.alloc hg.heap.fresh _;have pL:=hg.new d cells.size (.arr ei.size es) (.cells cells el) (hg.dN (hd d rfl)) ⟨cY,gf,.inr ⟨cells,el,(by show(w.alloc _).heap[if d=d then w.heap.size else L.ρ d]?=_;rw[if_pos rfl];exact heap_alloc_new w _),(by simp),(by rw[tL,qn];exact Nat.le_refl _),(by
  rw[tL,<- qn];have:cells.toList.take cells.size=cells.toList:=by rw[<- Array.length_toList,List.take_length]
  rw[this];refine aj.kC (L:=L) tr (fun i hi=>by simp[hi]) (nP gQ) ?_;rw[<- Xw];simpa[cells,vs]using xH)⟩⟩
 refine⟨_,_,_,bt,.inl rfl,_,F,pL.set (v:=.sl d ei.size 0 n) (hd d rfl) ⟨_,_,rfl,Nat.le_refl _,cY,.inr ⟨(by simp),(by simp[qn])⟩⟩,tr⟩
theorem v3{yv:Option Nat}{L:Loc}{F:Nat->Nat}{w:World}{place:Nat->Option (Nat×Nat)}{fs:List (Nat×Nat)}(nr:∀ i p,fs[i]?=some p->place i=some p):∀ {l:List (Nat×V)} {vs:List Value} {cs Si:Cells} {cells:Array Value},
  j7 fs cs l=some Si->aj yv L F w (l.map (·.2)) vs->aj yv L F w cs.bo cells.toList ->
  ∃ r,Instr.fill place cells ((l.map (·.1)).zip vs)=some r/\aj yv L F w Si.bo r.toList
 | [],vs,cs,Si,cells,h,hv,hc=>by
  simp only[j7,Option.some.injEq]at h;subst h;exact⟨cells,by simp[Instr.fill],hc⟩
 | (i,v)::r,vs,cs,Si,cells,h,hv,hc=>by
  simp only[j7]at h;obtain⟨x,vs',rfl,hx,NN⟩:=hv;split at h;case h_2=>cases h
  rename_i off n hi;split at h;case h_2=>cases h
  rename_i xE Ci;have xE:=da xE;have Ci:=lO Ci;rw[Cells.iU]at xE Ci;have BY:=hx.qd.length;have xF:=hc.length;have Hp:x.cells.size=n:=by rw[<- xE,<- BY];simp
  obtain⟨g1,g2⟩:=Great.foldl_set off x.cells.toList 0 cells;simp only[Nat.add_zero]at g2;have RE:aj yv L F w (cs.gJ off v.cells).bo ((x.cells.toList.zipIdx 0).foldl (fun cs (y:Value×Nat)=>cs.setIfInBounds (off+y.2) y.1) cells).toList:=by
   rw[Cells.m4];refine .jG ?_ fun k c hk=>?_
   ·rw[fT (by omega)]
    simp[g1]at xF ⊢;omega
   ·have jc:∀ y,(if off<=k/\k<off+x.cells.toList.length/\k<cells.size then x.cells.toList[k-off]? else cells[k]?)=some y ->
      ((x.cells.toList.zipIdx 0).foldl (fun cs (y:Value×Nat)=>cs.setIfInBounds (off+y.2) y.1) cells).toList[k]?=some y:=fun y hy=>by
     rw[<- g2 k]at hy;simpa using hy
    have qn:cells.size=cs.bo.length:=by simpa using xF
    by_cases py:off<=k/\k<off+n
    ·rw[lK (by omega) py.1 (by omega)]at hk
     obtain⟨y,hy,AW⟩:=aj.get _ hx.qd hk;refine⟨y,jc y ?_,AW⟩;rw[if_pos ⟨py.1,by simp[Hp];omega,by omega⟩];exact hy
    ·rw[kL (by omega) (by omega)]at hk
     obtain⟨y,hy,AW⟩:=aj.get _ hc hk;refine⟨y,jc y ?_,AW⟩;rw[if_neg (by simp[Hp];omega)];simpa using hy
  obtain⟨res,MS,Cs⟩:=v3 nr h NN RE;refine⟨res,?_,Cs⟩;simp only[List.map_cons,List.zip_cons_cons];unfold Instr.fill;simp only[nr _ _ hi,Hp];have qn:cells.size=cs.bo.length:=by simpa using xF
  rw[if_neg (by simp;omega),<- MS]
  congr 1
  rw[<- Array.foldl_toList,Array.toList_zipIdx]
theorem run_places(hT:bl P T){w:World}:∀ {fa:List Field} {sz:List (Nat×Nat)},rL T (fa.map fun f=>(f.offset,f.type))=some sz ->
  (fa.mapM fun f=>(do pure (f.offset,<- sizeOf f.type):Sem (Nat×Nat))).run P w = .ok sz w
 | [],sz,h=>by simp only[List.map_nil,rL,Option.some.injEq]at h;subst h;simp
 | f::fa,sz,h=>by
  simp only[List.map_cons,rL]at h;split at h
  ·rename_i i l hi hl
   cases h;have:=run_places hT (w:=w) hl;simp only[List.mapM_cons,Sem.run_bind,dA hT hi,Result.andThen_ok,Sem.run_pure,this]
  ·cases h
theorem aT.val{yv:Option Nat}{L:Loc}{F:Nat->Nat}{w:World}{c:Cells}{l:Array Value}(h:aj yv L F w c.bo l.toList):aT yv L F w c.val (.agg l):=by
 cases c with
 | dd d=>exact⟨l,rfl,aj.inj.1 h⟩
 | vv d=>exact aT.pQ h
theorem xf(size:Nat):∀ (n k i:Nat) (p:Nat×Nat),(uH size (k*size) n)[i]?=some p->some ((k+i)*size,size)=some p
 | 0,k,i,p,h=>by simp[uH]at h
 | n+1,k,0,p,h=>by simpa[uH]using h
 | n+1,k,i+1,p,h=>by
  have h:(uH size (k*size+size) n)[i]?=some p:=by simpa[uH]using h
  rw[show k*size+size=(k+1)*size by rw[Nat.add_mul,Nat.one_mul]]at h;have:=xf size n (k+1) i p h;rw[<- this];congr 3;omega
theorem parts_eval{ps:Array (Nat×Operand)}(a:Act){l:List (Nat×V)}(xJ:l.map (·.1)=ps.toList.map (·.1)):(ps.map fun(i,x)=>(i,a.eval x)).toList=(l.map (·.1)).zip (ps.toList.map fun p=>a.eval p.2):=by
 rw[xJ];simp only[Array.toList_map];generalize ps.toList=q
 induction q with
 | nil=>rfl
 | cons x q ih=>simp[ih]
theorem Fi(hT:bl P T){t:TypeId}{ps:Array (Nat×Operand)}(hk:fK T e h dst (.build t ps) K):∃ ws,K ws/\Out P e h ⟨dst,.build t ps,ty,pos,after,guard⟩ ws:=by
 simp only[fK]at hk;split at hk;case h_2=>exact hk.elim
 rename_i l ti hl fk;split at hk;case h_3=>exact hk.elim
 case h_2=>
  rename_i n el z dC hz;split at hk;case h_2=>exact hk.elim
  rename_i ei iF;split at hk;case h_2=>exact hk.elim
  rename_i cs hf;obtain⟨i,de,hi,fB,_,_,dw,_,_,Cu⟩:=hT t ti fk;rw[dC]at dw;have:=ek dw.symm;subst this;obtain⟨Z,hZ,wP,_⟩:=Cu z hz;refine⟨_,hk,bj (v:=cs.val) (o:=⟨dst,.build t ps,ty,pos,after,guard⟩) fun cx r m L F st a w he hh hg=>?_⟩;have BZ:aj cx.yv L F w (Cells.dd z).bo Z.cells.toList:=aj.inj.2 (iK wP);obtain⟨xJ,Rv⟩:=ld hg he hl;obtain⟨res,hr,Cs⟩:=v3 (place:=fun i=>some (i*ei.size,ei.size)) (fun i p h=>by have:=xf ei.size n 0 i p (by rw[Nat.zero_mul];exact h);rw[Nat.zero_add]at this;exact this) hf Rv BZ;have ve:=parts_eval a xJ;refine⟨.agg res,?_,aT.val Cs⟩;have h3:(Instr.build t (ps.map fun(i,x)=>(i,a.eval x))).run P w = .ok (.agg res) w:=by
   unfold Instr.build;simp only[Sem.run_bind,zeroValue,typeInfo,run_program,hi,Result.andThen_ok,Sem.run_pure,hZ,run_underlying fB,dA hT iF];rw[ve,hr];simp
  simp[execOp,h3]
 rename_i fs z dC hz;split at hk;case h_2=>exact hk.elim
 rename_i sz cY;split at hk;case h_2=>exact hk.elim
 rename_i cs hf;obtain⟨i,de,hi,fB,_,_,dw,_,_,Cu⟩:=hT t ti fk;rw[dC]at dw;obtain⟨fa,rfl,rfl,_⟩:=gR dw.symm;obtain⟨Z,hZ,wP,_⟩:=Cu z hz;refine⟨_,hk,bj (v:=cs.val) (o:=⟨dst,.build t ps,ty,pos,after,guard⟩) fun cx r m L F st a w he hh hg=>?_⟩;have BZ:aj cx.yv L F w (Cells.dd z).bo Z.cells.toList:=aj.inj.2 (iK wP);obtain⟨xJ,Rv⟩:=ld hg he hl;obtain⟨res,hr,Cs⟩:=v3 (place:=fun i=>sz[i]?) (fun _ _ h=>h) hf Rv BZ;have ve:=parts_eval a xJ;have nr:=run_places hT (w:=w) cY;refine⟨.agg res,?_,aT.val Cs⟩;have h2:(fa.mapM fun f=>(do pure (f.offset,<- sizeOf f.type):Sem (Nat×Nat))).run P w = .ok sz.toArray w:=by
  rw[Array.mapM_eq_mapM_toList];simp only[Sem.run_map,nr,Result.andThen_ok]
 have h3:(Instr.build t (ps.map fun(i,x)=>(i,a.eval x))).run P w = .ok (.agg res) w:=by
  unfold Instr.build;simp only[Sem.run_bind,zeroValue,typeInfo,run_program,hi,Result.andThen_ok,Sem.run_pure,hZ,run_underlying fB,h2];rw[ve];have:(fun(x:Nat)=>sz.toArray[x]?)=fun(i:Nat)=>sz[i]?:=by funext i;simp
  rw[this,hr];simp
 simp[execOp,h3]
theorem mV(hT:bl P T){w:World}{t:TypeId}{ti:pF}(ht:T.get t=some ti){b off:Nat}{l:Array Value}{E:TypeId}(hl:w.heap[b]?=some (.cells l E (0,0))){v:Value}
  (hn:v.cells.size=ti.size) (ho:off+ti.size<=l.size) (h1:∀ u∈v.cells.toList,u.oneCell'=true) :
  (storeVar t ⟨b,off,none⟩ v).run P w = .ok () (w.setRow b (l.toList.take off++v.cells.toList++l.toList.drop (off+v.cells.toList.length)).toArray):=by
 have:=run_storeCells_at (P:=P) b off E v.cells.toList 0 l w hl (by simp[hn];omega) h1;simp only[Nat.add_zero,Array.length_toList,hn]at this;simp[storeVar,dA hT ht,hn,this]
theorem BI{α:Type}{sz:Nat}{es:List (List α)}(hl:cK sz es){i:Nat}{e:List α}(hi:es[i]?=some e){x:List α}{o:Nat}(ho:o+x.length<=sz) :
  (es.set i (e.take o++x++e.drop (o+x.length))).flatten=es.flatten.take (i*sz+o)++x++es.flatten.drop (i*sz+o+x.length):=by
 induction es generalizing i with
 | nil=>simp at hi
 | cons f r ih=>
  have hf:=hl f (List.mem_cons_self ..)
  cases i with
  | zero=>
   simp at hi;subst hi;simp only[List.set_cons_zero,List.flatten_cons,Nat.zero_mul,Nat.zero_add];rw[List.take_append_of_le_length (by omega),List.drop_append_of_le_length (by omega)];simp
  | succ i=>
   simp only[List.set_cons_succ,List.flatten_cons];rw[ih (fun e he=>hl e (List.mem_cons_of_mem _ he)) (by simpa using hi)];have e1:(i+1)*sz+o=f.length+(i*sz+o):=by rw[Nat.succ_mul];omega
   have e2:(i+1)*sz+o+x.length=f.length+(i*sz+o+x.length):=by rw[Nat.succ_mul];omega
   rw[e2,e1,List.take_length_add_append,List.drop_length_add_append];simp
theorem tF{α:Type}{l Y:List α}{o n:Nat}(h:o+Y.length<=n)(hn:n<=l.length) :
  (l.take o++Y++l.drop (o+Y.length)).take n=(l.take n).take o++Y++(l.take n).drop (o+Y.length):=by
 have e1:(l.take n).length=n:=by rw[List.length_take];omega
 apply List.ext_getElem?;intro k;by_cases hk:k<n
 ·rw[List.getElem?_take_of_lt hk]
  by_cases py:o<=k/\k<o+Y.length
  ·rw[lK (by omega) py.1 py.2,lK (by omega) py.1 py.2]
  ·rw[kL (by omega) (by omega),kL (by omega) (by omega),List.getElem?_take_of_lt hk]
 ·rw[List.getElem?_eq_none (by rw[List.length_take];omega),List.getElem?_eq_none (by rw[fT (by omega)];omega)]
theorem IQ(es:a7)(n:Nat)(x:Cells):(es.set n x).bo=es.bo.set n x.bo:=by
 cases es<;>cases x<;>simp[a7.set,a7.bo,Cells.bo,cq,List.map_set]
theorem Fp(hT:bl P T){t:TypeId}{x y:Operand}(hk:fK T e h dst (.store t x y) K):∃ ws,K ws/\Out P e h ⟨dst,.store t x y,ty,pos,after,guard⟩ ws:=by
 simp only[fK]at hk
 cases dst with
 | some d=>exact hk.elim
 | none=>
 simp only[Ik]at hk;split at hk;case h_2=>exact hk.elim
 rename_i u v ti hu hv ht;obtain⟨hc,hk⟩:=bA hk;simp only[Bool.and_eq_true]at hc;obtain⟨hlen,eg⟩:=hc;have hlen:=da hlen;rw[Cells.iU]at hlen;split at hk
 ·rename_i id off hp
  split at hk;case h_3=>exact hk.elim
  ·rename_i cs Cj
   obtain⟨hb,hk⟩:=bA hk;have hb:=lO hb;rw[Cells.iU]at hb;refine⟨_,hk,?_⟩;intro σ cx r m L F st a w he hh hg hd;unfold placeOf at hp;split at hp<;>cases hp
   have cF:a.eval x = .pointer (some ⟨L.ρ id,off,none⟩):=hg.aH (ax he hu);have zm:=(hg.aH (ax he hv)).qd;have DT:=zm.length;have h0:=hh _ _ Cj;obtain⟨l,E,hl,hr⟩:=hg.heap.obj id _ h0;have Jn:=hr.length;have pz:=mV hT (w:=w) ht hl (off:=off) (v:=a.eval y) (by rw[<- hlen,<- DT];simp) (by simp at Jn;omega) (zm.one (by rw[<- Cells.ok_eq];exact eg));obtain⟨g1,g2⟩:=hg.obj (o:=.box (cs.gJ off v.cells)) h0 trivial (w':=w.setRow (L.ρ id) (l.toList.take off++(a.eval y).cells.toList++l.toList.drop (off+(a.eval y).cells.toList.length)).toArray) rfl rfl rfl (size_setRow _ _ _) (fun b hb=>setRow_other _ _ _ _ hb)
    (by rw[hl];intro ds e;cases e) (by rw[hl];intro lp e;cases e)
    ⟨_,E,setRow_heap _ _ _ _ _ _ hl,by
     rw[Cells.m4];have tr:Tr F w F (w.setRow (L.ρ id) (l.toList.take off++(a.eval y).cells.toList++l.toList.drop (off+(a.eval y).cells.toList.length)).toArray):=
      .gz rfl rfl rfl (by simp) (fun _=>Nat.le_refl _) hg.heap.fresh fun b _ hF=>setRow_other _ _ _ _ (by rintro rfl;have:=(hg.heap.own id _ h0 trivial).1;omega)
     exact aj.mono tr _ _ (fun _ _=>⟨rfl,rfl⟩) (by simpa using aj.gJ off hr zm)⟩
   exact⟨undef,_,.skip,by simp[execOp,Instr.storeAt,cF,Instr.sureAddr,pz],.inr ⟨rfl,rfl⟩,L,F,g1,g2⟩
  ·rename_i tt vl Cj
   obtain⟨hb,hk⟩:=bA hk;have hb:=lO hb;refine⟨_,hk,?_⟩;intro σ cx r m L F st a w he hh hg hd;unfold placeOf at hp;split at hp<;>cases hp
   have cF:a.eval x = .pointer (some ⟨L.ρ id,off,none⟩):=hg.aH (ax he hu);have zm:=(hg.aH (ax he hv)).qd;have DT:=zm.length;have h0:=hh _ _ Cj;obtain⟨l,hl,hr⟩:=hg.heap.obj id _ h0;have Jn:=hr.length;have pz:=mV hT (w:=w) ht hl (off:=off) (v:=a.eval y) (by rw[<- hlen,<- DT];simp) (by simp at Jn;omega) (zm.one (by rw[<- Cells.ok_eq];exact eg));obtain⟨g1,g2⟩:=hg.obj (o:=.tb tt ((Cells.vv vl).gJ off v.cells).bo) h0 trivial (w':=w.setRow (L.ρ id) (l.toList.take off++(a.eval y).cells.toList++l.toList.drop (off+(a.eval y).cells.toList.length)).toArray) rfl rfl rfl (size_setRow _ _ _) (fun b hb=>setRow_other _ _ _ _ hb)
    (by rw[hl];intro ds e;cases e) (by rw[hl];intro lp e;cases e)
    ⟨_,setRow_heap _ _ _ _ _ _ hl,by
     rw[Cells.m4];show aj cx.yv L F _ (vl.take off++v.cells.bo++vl.drop (off+v.cells.bo.length)) _;have tr:Tr F w F (w.setRow (L.ρ id) (l.toList.take off++(a.eval y).cells.toList++l.toList.drop (off+(a.eval y).cells.toList.length)).toArray):=
      .gz rfl rfl rfl (by simp) (fun _=>Nat.le_refl _) hg.heap.fresh fun b _ hF=>setRow_other _ _ _ _ (by rintro rfl;have:=(hg.heap.own id _ h0 trivial).1;omega)
     exact aj.mono tr _ _ (fun _ _=>⟨rfl,rfl⟩) (by simpa using aj.gJ off hr zm)⟩
   exact⟨undef,_,.skip,by simp[execOp,Instr.storeAt,cF,Instr.sureAddr,pz],.inr ⟨rfl,rfl⟩,L,F,g1,g2⟩
 ·rename_i id sz i off hp
  split at hk;case h_2=>exact hk.elim
  rename_i n es nC;obtain⟨hn,jc⟩:=bA hk;have so:=da hn;clear hk hn;subst so;obtain⟨c,Mk,hk⟩:=Ar jc;obtain⟨hb,hk⟩:=bA hk;have hb:=lO hb;rw[Cells.iU]at hb;refine⟨_,hk,?_⟩;intro σ cx r m L F st a w he hh hg hd;unfold placeOf at hp;split at hp<;>cases hp
  have cF:a.eval x = .pointer (some ⟨L.ρ id,i*n+off,none⟩):=hg.aH (ax he hu);have zm:=(hg.aH (ax he hv)).qd;have DT:=zm.length;have h0:=hh _ _ nC;obtain⟨XJ,gf,jm⟩:=hg.heap.obj id _ h0;rcases jm with⟨zj,_⟩|⟨l,E,hl,hκ,cY,hr⟩
  ·rw[zj]at Mk;simp at Mk
  have xF:c.bo.length=n:=gf _ (List.mem_of_getElem? Mk);have Cm:i<es.bo.length:=(List.getElem?_eq_some_iff.1 Mk).1;have Zc:i*n+n<=es.bo.length*n:=by rw[<- Nat.succ_mul];exact Nat.mul_le_mul_right _ Cm
  have j8:aJ L id (.arr n es):=by
   show L.κ id≠0;have:0<es.bo.length*n:=Nat.mul_pos (by omega) XJ;omega
  have pz:=mV hT (w:=w) ht hl (off:=i*n+off) (v:=a.eval y) (by rw[<- hlen,<- DT];simp) (by omega) (zm.one (by rw[<- Cells.ok_eq];exact eg));have WJ:(a.eval y).cells.toList.length=ti.size:=by rw[DT,hlen]
  have Jv:=fT (cs:=l.toList) (l:=(a.eval y).cells.toList) (off:=i*n+off) (by rw[WJ];simp;omega);generalize sj:(l.toList.take (i*n+off)++(a.eval y).cells.toList++l.toList.drop (i*n+off+(a.eval y).cells.toList.length)).toArray=c' at pz;have ce:c'.toList=l.toList.take (i*n+off)++(a.eval y).cells.toList++l.toList.drop (i*n+off+(a.eval y).cells.toList.length):=by rw[<- sj]
  have wK:c'.size=l.size:=by rw[<- ce]at Jv;simpa using Jv
  have tr:Tr F w F (w.setRow (L.ρ id) c'):=
   .gz rfl rfl rfl (by simp) (fun _=>Nat.le_refl _) hg.heap.fresh fun b _ hF=>setRow_other _ _ _ _ (by rintro rfl;have:=(hg.heap.own id _ h0 j8).1;omega)
  have EW:((es.set i (c.gJ off v.cells)).bo)=es.bo.set i (c.bo.take off++v.cells.bo++c.bo.drop (off+v.cells.bo.length)):=by rw[IQ,Cells.m4]
  obtain⟨g1,g2⟩:=hg.obj (o:=.arr n (es.set i (c.gJ off v.cells))) h0 j8 (w':=w.setRow (L.ρ id) c') rfl rfl rfl (size_setRow _ _ _) (fun b hb=>setRow_other _ _ _ _ hb)
   (by rw[hl];intro ds e;cases e) (by rw[hl];intro lp e;cases e) (by
    refine⟨XJ,?_,.inr ⟨c',E,setRow_heap _ _ _ _ _ _ hl,?_,?_,?_⟩⟩
    ·rw[EW]
     intro e he;rcases List.mem_or_eq_of_mem_set he with he|rfl
     ·exact gf e he
     ·rw[fT (by omega)];exact xF
    ·rw[wK,hκ]
    ·rw[EW,List.length_set,wK];exact cY
    ·rw[EW,List.length_set,BI gf Mk (by omega),ce]
     refine aj.mono tr _ _ (fun _ _=>⟨rfl,rfl⟩) ?_;have h1:=aj.gJ (i*n+off) hr zm;have e1:(l.toList.take (i*n+off)++(a.eval y).cells.toList++l.toList.drop (i*n+off+(a.eval y).cells.toList.length)).take (es.bo.length*n) =
       (l.toList.take (es.bo.length*n)).take (i*n+off)++(a.eval y).cells.toList++(l.toList.take (es.bo.length*n)).drop (i*n+off+(a.eval y).cells.toList.length):=by
      exact tF (by omega) (by simp;omega)
     rw[e1];exact h1)
  exact⟨undef,_,.skip,by simp[execOp,Instr.storeAt,cF,Instr.sureAddr,pz],.inr ⟨rfl,rfl⟩,L,F,g1,g2⟩
 ·exact hk.elim
end
end Go.PX
