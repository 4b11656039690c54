import Derived.Test.YtgpmlbbkfmkmkaaGreatDoorPxB
import Derived.Great.BuildSlice
set_option linter.all false
namespace Go.PX
open Go.RowKit
theorem jM(b off n:Nat):(⟨b,off,none⟩:Addr).add n=⟨b,off+n,none⟩:=by
 unfold Addr.add;split
 ·rename_i h;subst h;rfl
 ·rfl
theorem RepAt.get{F:Nat->Nat}{w:World}:∀ {cs:List D} {b off:Nat} (i:Nat) {c:D},RepAt F w b off cs->cs[i]?=some c->off+i<F b /\ ∃ x,w.cell? ⟨b,off+i,none⟩=some x/\RepD F w c x
 | [],_,_,i,c,_,hi=>by simp at hi
 | d::r,b,off,0,c,h,hi=>by
  simp at hi;subst hi;exact⟨h.1,h.2.1⟩
 | d::r,b,off,i+1,c,h,hi=>by
  have:=RepAt.get i h.2.2 (by simpa using hi);simpa[Nat.add_assoc,Nat.add_comm 1 i]using this
theorem RepAt.of_get{F:Nat->Nat}{w:World}:∀ {cs:List D} {b off:Nat},(∀ (i:Nat) (c:D),cs[i]?=some c->off+i<F b /\ ∃ x,w.cell? ⟨b,off+i,none⟩=some x/\RepD F w c x)->RepAt F w b off cs
 | [],_,_,_=>trivial
 | c::r,b,off,h=>⟨(h 0 c (by simp)).1,(h 0 c (by simp)).2,RepAt.of_get fun i d hd=>by
   have:=h (i+1) d (by simpa using hd);simpa[Nat.add_assoc,Nat.add_comm 1 i]using this⟩
theorem RepAt.drop{F:Nat->Nat}{w:World}{cs:List D}{b off:Nat}(n:Nat)(h:RepAt F w b off cs):RepAt F w b (off+n) (cs.drop n):=
 .of_get fun i c hc=>by
  rw[List.getElem?_drop]at hc;simpa[Nat.add_assoc]using RepAt.get _ h hc
theorem RepEs.get{F:Nat->Nat}{w:World}:∀ {es:List (List D)} {b off sz:Nat} (i:Nat) {e:List D},RepEs F w b off sz es->es[i]?=some e->e.length=sz/\RepAt F w b (off+i*sz) e
 | [],_,_,_,i,c,_,hi=>by simp at hi
 | d::r,b,off,sz,0,c,h,hi=>by
  simp at hi;subst hi;exact⟨h.1,by simpa using h.2.1⟩
 | d::r,b,off,sz,i+1,c,h,hi=>by
  have:=RepEs.get i h.2.2 (by simpa using hi);refine⟨this.1,?_⟩;have e:off+(i+1)*sz=off+sz+i*sz:=by rw[Nat.succ_mul];omega
  rw[e];exact this.2
theorem RepEs.of_get{F:Nat->Nat}{w:World}:∀ {es:List (List D)} {b off sz:Nat},(∀ (i:Nat) (e:List D),es[i]?=some e->e.length=sz/\RepAt F w b (off+i*sz) e)->RepEs F w b off sz es
 | [],_,_,_,_=>trivial
 | e::r,b,off,sz,h=>⟨(h 0 e (by simp)).1,by simpa using (h 0 e (by simp)).2,RepEs.of_get fun i d hd=>by
   have:=h (i+1) d (by simpa using hd);have e:off+(i+1)*sz=off+sz+i*sz:=by rw[Nat.succ_mul];omega
   rw[e]at this;exact this⟩
theorem RepEs.take{F:Nat->Nat}{w:World}{es:List (List D)}{b off sz:Nat}(n:Nat)(h:RepEs F w b off sz es):RepEs F w b off sz (es.take n):=
 .of_get fun i e he=>by
  rw[List.getElem?_take]at he;split at he
  ·exact RepEs.get i h he
  ·simp at he
theorem RepEs.drop{F:Nat->Nat}{w:World}{es:List (List D)}{b off sz:Nat}(n:Nat)(h:RepEs F w b off sz es):RepEs F w b (off+n*sz) sz (es.drop n):=
 .of_get fun i e he=>by
  rw[List.getElem?_drop]at he;have:=RepEs.get _ h he;rw[Nat.add_mul,<- Nat.add_assoc]at this;exact this
theorem qde:∀ {l:List V} {ds:List D},qqy l=some ds->l=inj ds
 | [],ds,h=>by simp[qqy]at h;subst h;rfl
 | v::r,ds,h=>by
  cases v<;>simp only[qqy]at h<;>first|(cases h;done)|skip
  rename_i d
  cases hr:qqy r with
  | none=>simp[hr]at h
  | some l=>simp[hr]at h;subst h;simp[inj,qde hr]
section
variable {yv : Option Nat} {L : Loc} {F : Nat -> Nat} {w : World}
theorem RepV.mkAgg{cs:List V}{l:Array Value}(h:RepVL yv L F w cs l.toList):RepV yv L F w (mkAgg cs) (.agg l):=by
 unfold PX.mkAgg;split
 ·rename_i ds hd
  rw[qde hd]at h;exact⟨l,rfl,RepVL.inj.1 h⟩
 ·exact⟨l,rfl,h⟩
theorem Cells.len_eq(c:Cells):c.len=c.toV.length:=by
 cases c
 ·exact(jl _).symm
 ·rfl
theorem RepV.sub{c:Cells}{off n:Nat}{l:Array Value}(h:RepVL yv L F w ((c.toV.drop off).take n) l.toList):RepV yv L F w (c.sub off n) (.agg l):=by
 cases c with
 | dd d=>
  refine⟨l,rfl,?_⟩;simp only[Cells.toV,<- qjW,<- qjV]at h;exact RepVL.inj.1 h
 | vv d=>exact RepV.mkAgg h
theorem qxP{c:Cells}{n:Nat}{K:V->Prop}(h:c.atK n K):∃ v,c.toV[n]?=some v/\K v:=by
 cases c with
 | dd l=>
  obtain⟨v,hv,hk⟩:=qeI h;exact⟨.d v,by simp[Cells.toV,qjX,hv],hk⟩
 | vv l=>exact qeI h
theorem qlo{ti:TyI}{c:Cells}{off:Nat}{K:V->Prop}(h:c.getK ti off K) :
  ∃ v,K v/\((ti.isAgg=true/\off+ti.size<=c.toV.length/\v=c.sub off ti.size)\/(ti.isAgg=false/\c.toV[off]?=some v)):=by
 unfold Cells.getK at h;split at h
 ·rename_i hA
  obtain⟨hb,hk⟩:=zw h;rw[Cells.len_eq]at hb;exact⟨_,hk,.inl ⟨hA,qga hb,rfl⟩⟩
 ·rename_i hA
  obtain⟨v,hv,hk⟩:=qxP h;exact⟨v,hk,.inr ⟨hA,hv⟩⟩
theorem qiZ{b off:Nat}:∀ {cs:List V} (n:Nat),n<=cs.length->(∀ (i:Nat) c,cs[i]?=some c -> ∃ v,w.cell? ⟨b,off+i,none⟩=some v/\RepV yv L F w c v) ->
  ∃ l:List Value,RepVL yv L F w (cs.take n) l /\ ∀ (j:Nat) v,l[j]?=some v->w.cell? ⟨b,off+j,none⟩=some v
 | cs,0,_,_=>⟨[],by simp[RepVL],by simp⟩
 | cs,n+1,hn,h=>by
  obtain⟨l,hl,hj⟩:=qiZ n (by omega) h;have hlt:n<cs.length:=by omega
  obtain⟨v,hv,hr⟩:=h n cs[n] (by simp[hlt]);have hll:l.length=n:=by have:=hl.length;simp at this;omega
  refine⟨l ++ [v],?_,?_⟩
  ·rw[List.take_succ_eq_append_getElem hlt]
   exact hl.append ⟨v,[],rfl,hr,rfl⟩
  ·intro j u hu
   by_cases hjn:j<n
   ·rw[List.getElem?_append_left (by omega)]at hu
    exact hj j u hu
   ·rw[List.getElem?_append_right (by omega)]at hu
    have:j-l.length=0:=by
     rcases Nat.eq_zero_or_pos (j-l.length) with h0|h0
     ·exact h0
     ·rw[List.getElem?_eq_none (by simp;omega)]at hu;cases hu
    rw[this]at hu;simp at hu;subst hu;have:j=n:=by omega
    subst this;exact hv
theorem qeJ{P:Program}{T:Tys}(hT:qU P T){t:TypeId}{ti:TyI}(ht:T.get t=some ti){b off o:Nat}{c:Cells}{v:V}
  (hc:∀ (i:Nat) x,(c.toV.drop o)[i]?=some x -> ∃ v,w.cell? ⟨b,off+i,none⟩=some v/\RepV yv L F w x v)
  (hv:(ti.isAgg=true/\o+ti.size<=c.toV.length/\v=c.sub o ti.size)\/(ti.isAgg=false/\c.toV[o]?=some v)) :
  ∃ x,(loadVar t ⟨b,off,none⟩).run P w = .ok x w/\RepV yv L F w v x:=by
 rcases hv with⟨hA,hn,rfl⟩|⟨hA,hv⟩
 ·obtain⟨l,hl,hj⟩:=qiZ ti.size (by simp;omega) hc
  have hll:l.length=ti.size:=by have:=hl.length;simp at this;omega
  have hrun:(loadCells ⟨b,off,none⟩ l.length).run P w = .ok l.toArray w:=
   run_loadCells_list (P:=P) w ⟨b,off,none⟩ l (fun j v hv=>by rw[jM];exact hj j v hv)
  rw[hll]at hrun;exact⟨.agg l.toArray,by simp[loadVar,qcB hT ht,hA,jC hT ht,hrun],RepV.sub (by simpa using hl)⟩
 ·obtain⟨x,hx,hr⟩:=hc 0 v (by rw[List.getElem?_drop];exact hv)
  exact⟨x,by simp[loadVar,qcB hT ht,hA]at hx ⊢;simp[hx],hr⟩
theorem qhv{α:Type}{sz:Nat}:∀ {es:List (List α)} {i j:Nat} {e:List α} {c:α},zL sz es->es[i]?=some e->e[j]?=some c->es.flatten[i*sz+j]?=some c
 | [],i,j,e,c,_,hi,_=>by simp at hi
 | f::es,0,j,e,c,h,hi,hj=>by
  simp at hi;subst hi;have:j<f.length:=(List.getElem?_eq_some_iff.1 hj).1;rw[List.flatten_cons,Nat.zero_mul,Nat.zero_add,List.getElem?_append_left this];exact hj
 | f::es,i+1,j,e,c,h,hi,hj=>by
  have hf:=h f (List.mem_cons_self ..);rw[List.flatten_cons,List.getElem?_append_right (by rw[Nat.succ_mul];omega)];have:(i+1)*sz+j-f.length=i*sz+j:=by rw[Nat.succ_mul];omega
  rw[this];exact qhv (fun e he=>h e (List.mem_cons_of_mem _ he)) (by simpa using hi) hj
theorem qbP{α:Type}{sz:Nat}:∀ {es:List (List α)},zL sz es->es.flatten.length=es.length*sz
 | [],_=>by simp
 | f::es,h=>by
  rw[List.flatten_cons,List.length_append,qbP (fun e he=>h e (List.mem_cons_of_mem _ he)),h f (List.mem_cons_self ..),List.length_cons,Nat.succ_mul];omega
theorem qok{es:Els}{n:Nat}{K:Cells->Prop}(h:es.atK n K):∃ c,es.toV[n]?=some c.toV/\K c:=by
 cases es with
 | dd l=>
  obtain⟨v,hv,hk⟩:=qeI h;exact⟨.dd v,by simp[Els.toV,qZ,hv,Cells.toV],hk⟩
 | vv l=>
  obtain⟨v,hv,hk⟩:=qeI h;exact⟨.vv v,by simp[Els.toV,hv,Cells.toV],hk⟩
theorem RepO.boxCells{id:Nat}{c:Cells}(h:RepO yv L F w id (.box c))(o:Nat):∀ (i:Nat) x,(c.toV.drop o)[i]?=some x -> ∃ v,w.cell? ⟨L.ρ id,o+i,none⟩=some v/\RepV yv L F w x v:=by
 intro i x hx;obtain⟨l,T,hl,hr⟩:=h;rw[List.getElem?_drop]at hx;obtain⟨v,hv,hrv⟩:=RepVL.get _ hr hx;exact⟨v,by rw[cell_of_row _ _ _ _ _ _ hl];simpa using hv,hrv⟩
theorem RepO.arrCells{id sz i:Nat}{es:Els}{c:Cells}(h:RepO yv L F w id (.arr sz es))(hi:es.toV[i]?=some c.toV)(o:Nat) :
  ∀ (j:Nat) x,(c.toV.drop o)[j]?=some x -> ∃ v,w.cell? ⟨L.ρ id,i*sz+o+j,none⟩=some v/\RepV yv L F w x v:=by
 intro j x hx;obtain⟨hs,hl,h⟩:=h;rw[List.getElem?_drop]at hx;rcases h with⟨he,_⟩|⟨l,T,hl',hk,hn,hr⟩
 ·rw[he]at hi;simp at hi
 ·have hg:=qhv hl hi hx
  obtain⟨v,hv,hrv⟩:=RepVL.get _ hr hg;refine⟨v,?_,hrv⟩;rw[cell_of_row _ _ _ _ _ _ hl',Nat.add_assoc];rw[List.getElem?_take]at hv;split at hv
  ·simpa using hv
  ·cases hv
end
section
variable {P : Program} {T : Tys} {e : Env} {h : Heap} {dst : Option Nat} {K : List Wr -> Prop} {ty : TypeId} {pos : String} {after : Array Edge} {guard : Option (Nat × Bool)}
theorem qqT(hT:qU P T){t:TypeId}{x:Operand}{K:V->Prop}(hk:qqK T e h t x K) :
  ∃ v,K v /\ ∀ {σ:Type} (cx:Cx σ) (L:Loc) (F:Nat->Nat) (s:σ) (u:Value) (w:World) (hp:Heap),qaF h hp->HeapOk cx L F hp s w->(∀ v,opnd e x=some v->RepV cx.yv L F w v u) ->
   ∃ b off y,u = .pointer (some ⟨b,off,none⟩)/\(loadVar t ⟨b,off,none⟩).run P w = .ok y w/\RepV cx.yv L F w v y:=by
 unfold qqK at hk;split at hk
 ·exact hk.elim
 rename_i v hv;split at hk
 ·rename_i cs ti hp ht
  obtain⟨r,hr,hc⟩:=qlo hk;refine⟨r,hr,fun cx L F s u w hp' hs hg hu=>?_⟩;unfold qbq at hp;split at hp<;>cases hp;obtain⟨b,off,rfl,hat⟩:=hu _ hv;obtain⟨y,hy,hr⟩:=qeJ (yv:=cx.yv) (L:=L) (F:=F) (w:=w) (b:=b) (off:=off) (o:=0) hT ht (fun i x hx=>by
   rw[List.drop_zero,Cells.toV,qjX]at hx
   cases hc':cs[i]? with
   | none=>simp[hc']at hx
   | some c=>
    simp[hc']at hx;subst hx;exact(RepAt.get i hat hc').2) hc
  exact⟨b,off,y,rfl,hy,hr⟩
 ·rename_i id off ti hp ht
  have rd:∀ (cs:Cells),cs.getK ti off K->(∀ {yv:Option Nat} {L:Loc} {F:Nat->Nat} {w:World} {o:Obj},get h id=some o->RepO yv L F w id o->RepO yv L F w id (.box cs)) ->
    ∃ v,K v /\ ∀ {σ:Type} (cx:Cx σ) (L:Loc) (F:Nat->Nat) (s:σ) (u:Value) (w:World) (hp:Heap),qaF h hp->HeapOk cx L F hp s w->(∀ v,opnd e x=some v->RepV cx.yv L F w v u) ->
   ∃ b off y,u = .pointer (some ⟨b,off,none⟩)/\(loadVar t ⟨b,off,none⟩).run P w = .ok y w/\RepV cx.yv L F w v y:=by
   intro cs hk hcs;obtain⟨r,hr,hc⟩:=qlo hk;refine⟨r,hr,fun cx L F s u w hp' hs hg hu=>?_⟩;unfold qbq at hp;split at hp<;>cases hp;have hu:u = .pointer (some ⟨L.ρ id,off,none⟩):=hu _ hv;have ho:∃ o,get h id=some o/\RepO cx.yv L F w id o:=by
    cases hgo:get h id with
    | none=>exact absurd hk (by simp[hgo]at *)
    | some o=>exact⟨o,rfl,hg.obj id _ (hs _ _ hgo)⟩
   obtain⟨o,ho1,ho2⟩:=ho;obtain⟨y,hy,hr⟩:=qeJ (yv:=cx.yv) (L:=L) (F:=F) (w:=w) (b:=L.ρ id) (off:=off) (o:=off) hT ht (RepO.boxCells (hcs ho1 ho2) off) hc;exact⟨_,_,y,hu,hy,hr⟩
  split at hk;case h_3=>exact hk.elim
  ·rename_i cs hcs
   exact rd cs hk fun ho hr=>by rw[hcs]at ho;cases ho;exact hr
  ·rename_i tt l hcs
   exact rd (.vv l) hk fun ho hr=>by
    rw[hcs]at ho;cases ho;obtain⟨c,hc,hr⟩:=hr;exact⟨c,_,hc,hr⟩
 ·rename_i id sz i off ti hp ht
  split at hk;case h_2=>exact hk.elim
  rename_i n es hes;obtain⟨hn,hk⟩:=zw hk;have hn:=qah hn;obtain⟨c,hci,hk⟩:=qok hk;obtain⟨r,hr,hc⟩:=qlo hk;refine⟨r,hr,fun cx L F s u w hp' hs hg hu=>?_⟩;unfold qbq at hp;split at hp<;>cases hp;have hu:u = .pointer (some ⟨L.ρ id,i*sz+off,none⟩):=hu _ hv;subst hn;obtain⟨y,hy,hr⟩:=qeJ (yv:=cx.yv) (L:=L) (F:=F) (w:=w) (b:=L.ρ id) (off:=i*n+off) (o:=off) hT ht (RepO.arrCells (hg.obj id _ (hs _ _ hes)) hci off) hc;exact⟨_,_,y,hu,hy,hr⟩
 ·exact hk.elim
theorem qtl(hT:qU P T){t:TypeId}{x:Operand}(hk:opK T e h dst (.load t x) K):∃ ws,K ws/\Out P e h ⟨dst,.load t x,ty,pos,after,guard⟩ ws:=by
 simp only[opK]at hk;obtain⟨v,hv,hl⟩:=qqT (P:=P) hT hk;refine⟨_,hv,qR (o:=⟨dst,.load t x,ty,pos,after,guard⟩) fun cx r m L F st a w he hh hg=>?_⟩;obtain⟨b,off,y,hu,hy,hr⟩:=hl cx L F st.s (a.eval x) w st.heap hh hg.heap (fun v hv=>hg.opnd (qo he hv));exact⟨y,by simp[execOp,Instr.loadAt,hu,Instr.sureAddr,hy],hr⟩
theorem qlp(hT:qU P T){t:TypeId}{i off:Nat}{fi:TyI}(h:qhq T t i=some (off,fi)) :
  ∃ (fa:Array Field) (f:Field),P.underlying t=some (.struct fa)/\fa[i]?=some f/\f.offset=off/\T.get f.type=some fi:=by
 unfold qhq at h;split at h;case h_2=>cases h
 rename_i ti hti;split at h;case h_2=>cases h
 rename_i fs hk;split at h;case h_2=>cases h
 rename_i off' ft hi;split at h;case h_2=>cases h
 rename_i fi' hfi;cases h;obtain⟨ii,de,hii,hde,_,_,hkd,_⟩:=hT t ti hti;rw[hk]at hkd;obtain⟨fa,rfl,rfl,_⟩:=qaX hkd.symm;rw[List.getElem?_map]at hi
 cases hf:fa.toList[i]? with
 | none=>rw[hf]at hi;cases hi
 | some f=>
  rw[hf]at hi;cases hi;exact⟨fa,f,hde,by simpa using hf,rfl,hfi⟩
theorem qlq{v:V}{p:Place}(hp:qbq v=some p)(n:Nat){yv:Option Nat}{L:Loc}{F:Nat->Nat}{w:World}{u:Value}(hr:RepV yv L F w v u) :
  ∃ b off,u = .pointer (some ⟨b,off,none⟩)/\RepV yv L F w (p.add n) (.pointer (some ⟨b,off+n,none⟩)):=by
 unfold qbq at hp;split at hp<;>cases hp
 ·obtain⟨b,off,rfl,hat⟩:=hr
  exact⟨b,off,rfl,b,off+n,rfl,RepAt.drop n hat⟩
 ·exact⟨_,_,hr,rfl⟩
 ·exact⟨_,_,hr,by show Value.pointer _=Value.pointer _;rw[Nat.add_assoc]⟩
theorem qkb(hT:qU P T){t:TypeId}{x:Operand}{i:Nat}(hk:opK T e h dst (.fieldAddr t x i) K):∃ ws,K ws/\Out P e h ⟨dst,.fieldAddr t x i,ty,pos,after,guard⟩ ws:=by
 simp only[opK]at hk;split at hk;case h_2=>exact hk.elim
 rename_i v off fi hv hf;obtain⟨hsz,hk⟩:=zw hk;have hsz:=qlk hsz;split at hk;case h_2=>exact hk.elim
 rename_i p hp;obtain⟨fa,f,hu,hfi,rfl,hft⟩:=qlp hT hf;refine⟨_,hk,qR (o:=⟨dst,.fieldAddr t x i,ty,pos,after,guard⟩) fun cx r m L F st a w he hh hg=>?_⟩;obtain⟨b,o',hev,hr⟩:=qlq hp f.offset (hg.opnd (qo he hv));exact⟨_,by simp[execOp,Instr.fieldAt,run_underlying hu,hfi,hev,Instr.sureAddr,fieldPlace,jC hT hft,hsz,jM],hr⟩
theorem qlr(hT:qU P T){yv:Option Nat}{L:Loc}{F:Nat->Nat}{w:World}{t:TypeId}{ti:TyI}(ht:T.get t=some ti){cs:Array Value}{c:Cells}{off:Nat}(hx:RepVL yv L F w c.toV cs.toList){v:V}
  (hv:(ti.isAgg=true/\off+ti.size<=c.toV.length/\v=c.sub off ti.size)\/(ti.isAgg=false/\c.toV[off]?=some v)) :
  ∃ y,(part t cs off).run P w = .ok y w/\RepV yv L F w v y:=by
 rcases hv with⟨hA,hn,rfl⟩|⟨hA,hv⟩
 ·refine⟨.agg (cs.extract off (off+ti.size)),by simp[part,qcB hT ht,hA,jC hT ht],RepV.sub ?_⟩
  have:(cs.extract off (off+ti.size)).toList=(cs.toList.drop off).take ti.size:=by simp[List.extract_eq_take_drop]
  rw[this];exact(hx.drop off).take _
 ·obtain⟨y,hy,hr⟩:=RepVL.get off hx hv
  have hy':cs[off]?=some y:=by simpa using hy
  exact⟨y,by simp[part,qcB hT ht,hA,hy'],hr⟩
theorem qqU(hT:qU P T){t:TypeId}{x:Operand}{i:Nat}(hk:opK T e h dst (.field t x i) K):∃ ws,K ws/\Out P e h ⟨dst,.field t x i,ty,pos,after,guard⟩ ws:=by
 simp only[opK]at hk;have key:∀ (c:Cells) (off:Nat) (fi:TyI) (u:V),opnd e x=some u->qhq T t i=some (off,fi)->(∀ (yv:Option Nat) (L:Loc) (F:Nat->Nat) (w:World) (y:Value),RepV yv L F w u y -> ∃ l:Array Value,y = .agg l/\RepVL yv L F w c.toV l.toList) ->
   c.getK fi off (fun v=>K (wset dst v)) -> ∃ ws,K ws/\Out P e h ⟨dst,.field t x i,ty,pos,after,guard⟩ ws:=by
  intro c off fi u hu hf hr hk;obtain⟨v,hv,hc⟩:=qlo hk;obtain⟨fa,f,hun,hfi,rfl,hft⟩:=qlp hT hf;refine⟨_,hv,qR (o:=⟨dst,.field t x i,ty,pos,after,guard⟩) fun cx r m L F st a w he hh hg=>?_⟩;obtain⟨l,hl,hlr⟩:=hr _ _ _ _ _ (hg.opnd (qo he hu));obtain⟨y,hy,hr⟩:=qlr hT hft hlr hc;exact⟨y,by simp[execOp,Instr.field,run_underlying hun,hfi,hl,asAgg,hy],hr⟩
 split at hk
 ·rename_i cs off fi hu hf
  exact key (.dd cs) off fi _ hu hf (fun yv L F w y hr=>by obtain⟨l,rfl,hl⟩:=hr;exact⟨l,rfl,RepVL.inj.2 hl⟩) hk
 ·rename_i cs off fi hu hf
  exact key (.vv cs) off fi _ hu hf (fun yv L F w y hr=>by obtain⟨l,rfl,hl⟩:=hr;exact⟨l,rfl,hl⟩) hk
 ·exact hk.elim
theorem qvj{es:List (List D)}{i:Int}{K:List D->Prop}(h:qpj es i K):∃ l,0<=i/\es[i.toNat]?=some l/\K l:=by
 unfold qpj at h;split at h
 ·rename_i l h0 hl;exact⟨l,of_decide_eq_true h0,hl,h⟩
 ·exact h.elim
theorem jN(hT:qU P T){t:TypeId}{ti:TyI}(ht:T.get t=some ti):∃ d,P.underlying t=some d/\ti.kd=qfZ d:=by
 obtain⟨i,d,hi,hd,_,_,hk,_⟩:=hT t ti ht;exact⟨d,hd,hk⟩
theorem qkc(hT:qU P T){t:TypeId}{x i:Operand}(hk:opK T e h dst (.indexAddr t x i) K):∃ ws,K ws/\Out P e h ⟨dst,.indexAddr t x i,ty,pos,after,guard⟩ ws:=by
 simp only[opK]at hk;split at hk;case h_2=>exact hk.elim
 rename_i ti v k n ht hv hi;obtain⟨d,hu,hkd⟩:=jN hT ht;split at hk
 ·rename_i el hk1
  rw[hk1]at hkd;have:=jI hkd.symm;subst this;split at hk;case h_2=>exact hk.elim
  rename_i ei hei;obtain⟨hsz,hk⟩:=zw hk;have hsz:=qlk hsz;split at hk
  ·rename_i es _
   obtain⟨l,hn0,hl,hk⟩:=qvj hk;obtain⟨hll,hk⟩:=zw hk;have hll:=qah hll;refine⟨_,hk,qR (o:=⟨dst,.indexAddr t x i,ty,pos,after,guard⟩) fun cx r m L F st a w he hh hg=>?_⟩;have hiv:=qbF hg he hi;obtain⟨a0,len,cap,hev,hlen,hcap,hes⟩:=hg.opnd (qo he hv);obtain⟨b,off,sz,rfl,hsz0,hat⟩:=hes (by rintro rfl;simp at hl);obtain⟨hlz,hrat⟩:=RepEs.get n.toNat hat hl;have hszz:sz=ei.size:=by omega
   have hnl:n.toNat<es.length:=(List.getElem?_eq_some_iff.1 hl).1;refine⟨.pointer (some ⟨b,off+n.toNat*ei.size,none⟩),?_,b,_,rfl,hszz▸hrat⟩;have h1:(n:Int)<(len:Int):=by rw[hlen];omega
   simp[execOp,Instr.indexAt,hiv,asIntOf,run_underlying hu,hev,hn0,h1,jC hT hei,jM]
  ·rename_i id sz off len _
   obtain⟨hn,hk⟩:=zw hk;simp only[Bool.and_eq_true,decide_eq_true_eq]at hn;obtain⟨hszz,hk⟩:=zw hk;have hszz:=qah hszz;refine⟨_,hk,qR (o:=⟨dst,.indexAddr t x i,ty,pos,after,guard⟩) fun cx r m L F st a w he hh hg=>?_⟩;have hiv:=qbF hg he hi;obtain⟨a0,cap,hev,hcap,hsz0,hb⟩:=hg.opnd (qo he hv);rcases hb with⟨h0,_⟩|⟨rfl,hb⟩
   ·omega
   refine⟨.pointer (some ⟨L.ρ id,off*sz+n.toNat*ei.size,none⟩),?_,?_⟩
   ·simp[execOp,Instr.indexAt,hiv,asIntOf,run_underlying hu,hev,hn.1,hn.2,jC hT hei,jM]
   ·show Value.pointer _=Value.pointer _
    rw[<- hszz,Nat.add_zero,Nat.add_mul]
  ·exact hk.elim
 ·rename_i len el hk1
  rw[hk1]at hkd;have:=qag hkd.symm;subst this;split at hk;case h_2=>exact hk.elim
  rename_i ei p hei hp;obtain⟨hsz,hk⟩:=zw hk;have hsz:=qlk hsz;obtain⟨hn,hk⟩:=zw hk;simp only[Bool.and_eq_true,decide_eq_true_eq]at hn;refine⟨_,hk,qR (o:=⟨dst,.indexAddr t x i,ty,pos,after,guard⟩) fun cx r m L F st a w he hh hg=>?_⟩;have hiv:=qbF hg he hi;obtain⟨b,o',hev,hr⟩:=qlq hp (n.toNat*ei.size) (hg.opnd (qo he hv));exact⟨_,by simp[execOp,Instr.indexAt,hiv,asIntOf,run_underlying hu,hev,Instr.sureAddr,hn.1,hn.2,jC hT hei,jM],hr⟩
 ·exact hk.elim
theorem qqV(hT:qU P T){t:TypeId}{x i:Operand}(hk:opK T e h dst (.index t x i) K):∃ ws,K ws/\Out P e h ⟨dst,.index t x i,ty,pos,after,guard⟩ ws:=by
 simp only[opK]at hk;split at hk;case h_2=>exact hk.elim
 rename_i ti v k n ht hv hi;obtain⟨d,hu,hkd⟩:=jN hT ht;have key:∀ (c:Cells) (len:Nat) (el:TypeId) (ei:TyI),d = .array len el->T.get el=some ei->0<=n/\n<len ->
   (∀ (yv:Option Nat) (L:Loc) (F:Nat->Nat) (w:World) (y:Value),RepV yv L F w v y -> ∃ l:Array Value,y = .agg l/\RepVL yv L F w c.toV l.toList) ->
   c.getK ei (n.toNat*ei.size) (fun v=>K (wset dst v)) -> ∃ ws,K ws/\Out P e h ⟨dst,.index t x i,ty,pos,after,guard⟩ ws:=by
  intro c len el ei hde hei hn hr hk;subst hde;obtain⟨u,hv',hc⟩:=qlo hk;refine⟨_,hv',qR (o:=⟨dst,.index t x i,ty,pos,after,guard⟩) fun cx r m L F st a w he hh hg=>?_⟩;have hiv:=qbF hg he hi;obtain⟨l,hl,hlr⟩:=hr _ _ _ _ _ (hg.opnd (qo he hv));obtain⟨y,hy,hr⟩:=qlr hT hei hlr hc;exact⟨y,by simp[execOp,Instr.index,hiv,hl,asIntOf,run_underlying hu,hn.1,hn.2,jC hT hei,hy],hr⟩
 split at hk
 ·rename_i s hk1
  rw[hk1]at hkd;have:=qbE hkd.symm;subst this;obtain⟨hn,hk⟩:=zw hk;have hn:=of_decide_eq_true hn;obtain⟨b,hb,hk⟩:=qeI hk;refine⟨_,hk,qR (v:=.d (.int .u8 b.toNat)) (o:=⟨dst,.index t x i,ty,pos,after,guard⟩) fun cx r m L F st a w he hh hg=>?_⟩;have hiv:=qbF hg he hi;have hxv:=qdc hg he hv;have hlt':n.toNat<s.data.toList.length:=(List.getElem?_eq_some_iff.1 hb).1;have hlt:n.toNat<s.size:=by simpa using hlt'
  have hb':s[n.toNat]?=some b:=by
   rw[getElem?_pos s n.toNat hlt];rw[List.getElem?_eq_getElem hlt']at hb;cases hb;rfl
  exact⟨.int .u8 b.toNat,by simp[execOp,Instr.index,hiv,hxv,asIntOf,run_underlying hu,hn,hb'],rfl⟩
 ·rename_i len el cs hk1
  rw[hk1]at hkd;split at hk;case h_2=>exact hk.elim
  rename_i ei hei;obtain⟨hn,hk⟩:=zw hk;simp only[Bool.and_eq_true,decide_eq_true_eq]at hn;exact key (.dd cs) len el ei (qag hkd.symm) hei hn (fun yv L F w y hr=>by obtain⟨l,rfl,hl⟩:=hr;exact⟨l,rfl,RepVL.inj.2 hl⟩) hk
 ·rename_i len el cs hk1
  rw[hk1]at hkd;split at hk;case h_2=>exact hk.elim
  rename_i ei hei;obtain⟨hn,hk⟩:=zw hk;simp only[Bool.and_eq_true,decide_eq_true_eq]at hn;exact key (.vv cs) len el ei (qag hkd.symm) hei hn (fun yv L F w y hr=>by obtain⟨l,rfl,hl⟩:=hr;exact⟨l,rfl,hl⟩) hk
 ·exact hk.elim
end
section
variable {yv : Option Nat} {L : Loc} {F : Nat -> Nat} {w : World}
theorem RepD.one{a:D}{v:Value}(h:RepD F w a v)(hs:a.scalar=true):v.oneCell'=true:=by
 cases a<;>simp[D.scalar]at hs<;>simp only[RepD]at h
 case bool=>subst h;rfl
 case int=>subst h;rfl
 case str=>subst h;rfl
 case vs=>obtain⟨a,len,cap,rfl,_⟩:=h;rfl
 case nils=>subst h;rfl
 case ref=>obtain⟨b,off,rfl,_⟩:=h;rfl
 case nilp=>subst h;rfl
 case mv=>obtain⟨r,en,c,rfl,_⟩:=h;rfl
 case nilm=>subst h;rfl
 case clo=>obtain⟨l,rfl,_⟩:=h;rfl
 case mth=>obtain⟨l,rfl,_⟩:=h;rfl
 case nilf=>subst h;rfl
 case ifc=>obtain⟨y,rfl,_⟩:=h;rfl
 case nili=>subst h;rfl
theorem RepV.one{a:V}{v:Value}(h:RepV yv L F w a v)(hs:a.scalar=true):v.oneCell'=true:=by
 cases a<;>simp[V.scalar]at hs<;>simp only[RepV]at h
 case d=>exact RepD.one h hs
 case ptr=>subst h;rfl
 case ep=>subst h;rfl
 case sl=>obtain⟨a,cap,rfl,_⟩:=h;rfl
 case mp=>subst h;rfl
 case it=>subst h;rfl
 case clo=>obtain⟨l,rfl,_⟩:=h;rfl
 case yld=>obtain⟨l,_,rfl⟩:=h;rfl
 case unk=>exact h
theorem qqW{v:Value}(h:v.oneCell'=true):v.cells.toList = [v]:=by
 cases v<;>simp_all[Value.oneCell',Value.cells]
theorem RepV.cells{a:V}{v:Value}(h:RepV yv L F w a v)(hs:a.cells.ok=true):RepVL yv L F w a.cells.toV v.cells.toList:=by
 have key:a.scalar=true->a.cells.toV = [a]->RepVL yv L F w a.cells.toV v.cells.toList:=fun h1 h2=>by
  rw[h2,qqW (h.one h1)];exact⟨v,[],rfl,h,rfl⟩
 cases a with
 | d x=>
  cases x with
  | agg cs=>
   obtain⟨l,rfl,hl⟩:=h;exact RepVL.inj.2 hl
  | tup cs=>simp[V.cells,Cells.ok,qaW,D.scalar]at hs
  | _=>exact key rfl rfl
 | agg cs=>
  obtain⟨l,rfl,hl⟩:=h;exact hl
 | tup cs=>simp[V.cells,Cells.ok,zt,V.scalar]at hs
 | _=>exact key rfl rfl
theorem qdf:∀ (l:List D),zt (inj l)=qaW l
 | []=>rfl
 | c::r=>by simp[inj,zt,qaW,V.scalar,qdf r]
theorem Cells.ok_eq(c:Cells):c.ok=zt c.toV:=by
 cases c
 ·exact(qdf _).symm
 ·rfl
theorem qfh:∀ {l:List V},zt l=true -> ∀ v∈l,v.scalar=true
 | [],_,v,hv=>by cases hv
 | x::r,h,v,hv=>by
  simp only[zt,Bool.and_eq_true]at h;rcases List.mem_cons.1 hv with rfl|hv
  ·exact h.1
  ·exact qfh h.2 v hv
theorem RepVL.one{cs:List V}{l:List Value}(h:RepVL yv L F w cs l)(hs:zt cs=true):∀ v∈l,v.oneCell'=true:=by
 intro v hv;obtain⟨i,hi,rfl⟩:=List.getElem_of_mem hv;have hlen:=h.length;have hc:cs[i]?=some cs[i]:=List.getElem?_eq_getElem (by omega);obtain⟨y,hy,hr⟩:=h.get i hc;rw[List.getElem?_eq_getElem hi]at hy;cases hy;exact hr.one (qfh hs _ (List.getElem_mem _))
theorem qbI{v:Value}{z:List D}(h:zeroCells v=some z):RepDL F w z v.cells.toList:=by
 unfold zeroCells at h;have sc:∀ {d:D},qcZ v=some d->v.cells.toList = [v]/\RepD F w d v:=by
  intro d hd;refine⟨?_,qdb hd⟩;unfold qcZ at hd;split at hd<;>first|(cases hd;done)|rfl
 split at h
 ·rename_i l hl
  cases h;unfold qeF at hl;split at hl
  ·rename_i cs
   cases hs:qbh cs.toList with
   | none=>rw[hs]at hl;cases hl
   | some l'=>rw[hs]at hl;cases hl;exact qbO hs
  ·rename_i cs
   split at hl
   ·cases hl
   ·cases hl
  ·unfold qcZ at hl
   split at hl<;>cases hl
 ·cases h
 ·rename_i d h1 h2 hd
  cases h;unfold qeF at hd;split at hd
  ·rename_i cs
   cases hs:qbh cs.toList with
   | none=>rw[hs]at hd;cases hd
   | some l'=>rw[hs]at hd;cases hd;exact absurd rfl (h1 _)
  ·rename_i cs
   split at hd
   ·cases hd;exact absurd rfl (h2 _)
   ·cases hd
  ·obtain⟨e1,e2⟩:=sc hd
   rw[e1];exact⟨v,[],rfl,e2,rfl⟩
 ·cases h
end
section
variable {P : Program} {T : Tys} {e : Env} {h : Heap} {dst : Option Nat} {K : List Wr -> Prop} {ty : TypeId} {pos : String} {after : Array Edge} {guard : Option (Nat × Bool)}
theorem qvk{fn:Fn}{first caps:Array Operand}(hk:qxL e dst fn first.toList caps.toList K):∃ ws,K ws/\Out P e h ⟨dst,.makeFunc fn first caps,ty,pos,after,guard⟩ ws:=by
 generalize hf:first.toList=fl at hk
 generalize hc:caps.toList=cl at hk;unfold qxL at hk;split at hk;case h_2=>exact hk.elim
 rename_i f x r;split at hk;case h_2=>exact hk.elim
 rename_i l hl;split at hk;case h_2=>exact hk.elim
 rename_i ds hd;have hc0:caps = #[]:=by simpa using hc
 subst hc0;refine⟨_,hk,qR (v:=.d (.mth f ds)) (o:=⟨dst,.makeFunc (.func f) first #[],ty,pos,after,guard⟩) fun cx r m L F st a w he hh hg=>⟨.func (.func f) (first.map a.eval) #[],by simp[execOp,Instr.makeFunc],_,rfl,?_⟩⟩;have:=hg.opnds (qcC he hl);rw[qde hd,<- hf]at this;simpa using RepVL.inj.1 this
theorem qls{fn:Fn}{first caps:Array Operand}(hk:opK T e h dst (.makeFunc fn first caps) K):∃ ws,K ws/\Out P e h ⟨dst,.makeFunc fn first caps,ty,pos,after,guard⟩ ws:=by
 simp only[opK]at hk;split at hk;case h_2=>exact qvk hk
 rename_i f l hf hl;have hf0:first = #[]:=by simpa using hf
 subst hf0;have run:∀ (a:Act) (w:World),(execOp a.eval ⟨dst,.makeFunc (.func f) #[] caps,ty,pos,after,guard⟩).run P w = .ok (.value (.func (.func f) #[] (caps.map a.eval))) w:=fun a w=>by
  simp[execOp,Instr.makeFunc]
 split at hk
 ·rename_i ds hd
  refine⟨_,hk,qR (v:=.d (.clo f ds)) (o:=⟨dst,.makeFunc (.func f) #[] caps,ty,pos,after,guard⟩) fun cx r m L F st a w he hh hg=>⟨_,run a w,_,rfl,?_⟩⟩;have:=hg.opnds (qcC he hl);rw[qde hd]at this;simpa using RepVL.inj.1 this
 ·refine⟨_,hk,qR (v:=.clo f l) (o:=⟨dst,.makeFunc (.func f) #[] caps,ty,pos,after,guard⟩) fun cx r m L F st a w he hh hg=>⟨_,run a w,_,rfl,?_⟩⟩
  simpa using hg.opnds (qcC he hl)
theorem qha{n:Nat}{lo hi:Option V}{K:Nat->Nat->Prop}(hk:qiU n lo hi K) :
  ∃ l u,K l u/\l<=u/\u<=n /\ ∀ (cap:Nat) (isS:Bool) (lv hv:Option Value) (w:World),n<=cap ->
   (∀ v,lo=some v -> ∃ x,lv=some x /\ ∀ k i,v = .d (.int k i)->x = .int k i)->(lo=none->lv=none)->(∀ v,hi=some v -> ∃ x,hv=some x /\ ∀ k i,v = .d (.int k i)->x = .int k i)->(hi=none->hv=none) ->
   (Instr.sliceBounds isS n cap lv hv none).run P w = .ok (l,u,cap) w:=by
 unfold qiU at hk;split at hk
 ·split at hk
  ·refine⟨_,_,hk,Nat.zero_le _,Nat.le_refl _,fun cap isS lv hv w hc h1 h2 h3 h4=>?_⟩
   rw[h2 rfl,h4 rfl];simp[Instr.sliceBounds]
  ·rename_i k i
   obtain⟨hb,hk⟩:=zw hk;simp only[Bool.and_eq_true,decide_eq_true_eq]at hb;refine⟨_,_,hk,by omega,Nat.le_refl _,fun cap isS lv hv w hc h1 h2 h3 h4=>?_⟩;obtain⟨x,rfl,hx⟩:=h1 _ rfl;rw[h4 rfl,hx _ _ rfl];simp[Instr.sliceBounds,Instr.sliceBound,asIntOf,hb.1,hb.2]
  ·exact hk.elim
 ·rename_i k i
  obtain⟨hb,hk⟩:=zw hk;simp only[Bool.and_eq_true,decide_eq_true_eq]at hb;split at hk
  ·refine⟨_,_,hk,Nat.zero_le _,by omega,fun cap isS lv hv w hc h1 h2 h3 h4=>?_⟩
   obtain⟨x,rfl,hx⟩:=h3 _ rfl;rw[h2 rfl,hx _ _ rfl];have hic:i<=(cap:Int):=by omega
   simp[Instr.sliceBounds,Instr.sliceBound,asIntOf,hb.1,hic]
  ·rename_i k' j _
   obtain⟨hb',hk⟩:=zw hk;simp only[Bool.and_eq_true,decide_eq_true_eq]at hb';refine⟨_,_,hk,by omega,by omega,fun cap isS lv hv w hc h1 h2 h3 h4=>?_⟩;obtain⟨x,rfl,hx⟩:=h3 _ rfl;obtain⟨y,rfl,hy⟩:=h1 _ rfl;rw[hx _ _ rfl,hy _ _ rfl];have hic:i<=(cap:Int):=by omega
   have h2:j<=max i 0:=by omega
   simp[Instr.sliceBounds,Instr.sliceBound,asIntOf,hb.1,hic,hb'.1,h2]
  ·exact hk.elim
 ·exact hk.elim
theorem qqX{σ:Type}{cx:Cx σ}{r:Option Nat}{m:List Nat}{L:Loc}{F:Nat->Nat}{st:St σ}{a:Act}{w:World}(hg:Good cx r m L F st a w)(he:qaF e st.env){x:Option Operand}{v:Option V}
  (hx:qqG e x=some v):(∀ u,v=some u -> ∃ y,x.map a.eval=some y/\RepV cx.yv L F w u y)/\(v=none->x.map a.eval=none):=by
 cases x with
 | none=>simp only[qqG,Option.some.injEq]at hx;subst hx;exact⟨(fun u hu=>by cases hu),fun _=>rfl⟩
 | some x=>
  simp only[qqG]at hx;split at hx
  ·rename_i u hu
   cases hx;exact⟨fun u' hu'=>by cases hu';exact⟨_,rfl,hg.opnd (qo he hu)⟩,fun h=>by cases h⟩
  ·cases hx
theorem qqY(hT:qU P T){t:TypeId}{x:Operand}{lo hi mx:Option Operand}(hk:opK T e h dst (.slice t x lo hi mx) K):∃ ws,K ws/\Out P e h ⟨dst,.slice t x lo hi mx,ty,pos,after,guard⟩ ws:=by
 simp only[opK]at hk;split at hk
 ·exact hk.elim
 split at hk;case h_2=>exact hk.elim
 rename_i ti v l u ht hv hl hu;obtain⟨d,hun,hkd⟩:=jN hT ht;have bnds:∀ {σ:Type} {cx:Cx σ} {r:Option Nat} {m:List Nat} {L:Loc} {F:Nat->Nat} {st:St σ} {a:Act} {w:World},Good cx r m L F st a w->qaF e st.env ->
   (∀ v,l=some v -> ∃ x,lo.map a.eval=some x /\ ∀ k i,v = .d (.int k i)->x = .int k i)/\(l=none->lo.map a.eval=none)/\(∀ v,u=some v -> ∃ x,hi.map a.eval=some x /\ ∀ k i,v = .d (.int k i)->x = .int k i)/\(u=none->hi.map a.eval=none):=by
  intro σ cx r m L F st a w hg he;obtain⟨h1,h2⟩:=qqX hg he hl;obtain⟨h3,h4⟩:=qqX hg he hu;refine⟨fun v hv=>?_,h2,fun v hv=>?_,h4⟩
  ·obtain⟨y,hy,hr⟩:=h1 v hv
   exact⟨y,hy,fun k i e=>by subst e;exact hr⟩
  ·obtain⟨y,hy,hr⟩:=h3 v hv
   exact⟨y,hy,fun k i e=>by subst e;exact hr⟩
 split at hk
 ·rename_i el es hk1
  rw[hk1]at hkd;have:=jI hkd.symm;subst this;obtain⟨p,q,hk,hpq,hqn,hrun⟩:=qha (P:=P) hk;obtain⟨hsz,hk⟩:=zw hk;refine⟨_,hk,qR (v:=.d (.vs ((es.take q).drop p))) (o:=⟨dst,.slice t x lo hi none,ty,pos,after,guard⟩) fun cx r m L F st a w he hh hg=>?_⟩;obtain⟨a0,len,cap,hev,hlen,hcap,hes⟩:=hg.opnd (qo he hv);obtain⟨b1,b2,b3,b4⟩:=bnds hg he;have hr:=hrun cap true _ _ w (by omega) b1 b2 b3 b4;rw[<- hlen]at hr;unfold qoe at hsz;split at hsz;case h_2=>cases hsz
  rename_i ei hei;refine⟨.slice (if cap=p then a0 else a0.map (·.add (p*ei.size))) (q-p) (cap-p),?_,_,_,_,rfl,by simp;omega,by omega,fun hne=>?_⟩
  ·simp[execOp,Instr.sliceAt,run_underlying hun,Instr.slice,hev,hr,jC hT hei]
  have hne':es ≠ []:=by rintro rfl;simp at hne
  obtain⟨b,off,sz,rfl,hsz0,hat⟩:=hes hne';have hszn:sz=ei.size:=by
   cases es with
   | nil=>exact absurd rfl hne'
   | cons f g=>exact hat.1.symm.trans (qah hsz)
  have hpl:p<q:=by
   rcases Nat.lt_or_ge p q with h1|h1
   ·exact h1
   ·exact absurd (List.drop_eq_nil_of_le (by simp;omega)) hne
  have:¬ cap=p:=by omega
  refine⟨b,off+p*sz,sz,?_,hsz0,RepEs.drop p (RepEs.take q hat)⟩;rw[if_neg this,<- hszn];simp[jM]
 ·rename_i el id sz off len hk1
  rw[hk1]at hkd;have:=jI hkd.symm;subst this;obtain⟨p,q,hk,hpq,hqn,hrun⟩:=qha (P:=P) hk;obtain⟨hsz,hk⟩:=zw hk;refine⟨_,hk,qR (v:=.sl id sz (off+p) (q-p)) (o:=⟨dst,.slice t x lo hi none,ty,pos,after,guard⟩) fun cx r m L F st a w he hh hg=>?_⟩;obtain⟨a0,cap,hev,hcap,hsz0,hb⟩:=hg.opnd (qo he hv);obtain⟨b1,b2,b3,b4⟩:=bnds hg he;have hr:=hrun cap true _ _ w (by omega) b1 b2 b3 b4;split at hsz;case h_2=>cases hsz
  rename_i ei hei;have hsz:=qah hsz;refine⟨.slice (if cap=p then a0 else a0.map (·.add (p*ei.size))) (q-p) (cap-p),?_,_,_,rfl,by omega,hsz0,?_⟩
  ·simp[execOp,Instr.sliceAt,run_underlying hun,Instr.slice,hev,hr,jC hT hei]
  rcases hb with⟨h0,h1⟩|⟨rfl,hb⟩
  ·exact .inl (by omega)
  ·by_cases hcp:cap=p
   ·exact .inl (by omega)
   ·right
    rw[if_neg hcp,<- hsz];refine⟨by simp[jM,Nat.add_mul],?_⟩;have:off+p+(cap-p)=off+cap:=by omega
    rw[this];exact hb
 ·rename_i el hk1
  rw[hk1]at hkd;have:=jI hkd.symm;subst this;obtain⟨p,q,hk,hpq,hqn,hrun⟩:=qha (P:=P) hk;obtain⟨hsz,hk⟩:=zw hk;refine⟨_,hk,qR (v:=.d .nils) (o:=⟨dst,.slice t x lo hi none,ty,pos,after,guard⟩) fun cx r m L F st a w he hh hg=>?_⟩;have hev:a.eval x = .slice none 0 0:=hg.opnd (qo he hv);obtain⟨b1,b2,b3,b4⟩:=bnds hg he;have hr:=hrun 0 true _ _ w (by omega) b1 b2 b3 b4;have hp0:p=0:=by omega
  have hq0:q=0:=by omega
  subst hp0 hq0;obtain⟨ii,dd,hii,hdd,_⟩:=hT t ti ht;refine⟨.slice none 0 0,?_,rfl⟩;have hsz:∃ n,(sizeOf el).run P w = .ok n w:=by
   split at hsz
   ·rename_i ei hei;exact⟨_,jC hT hei⟩
   ·cases hsz
  obtain⟨n,hn⟩:=hsz;simp[execOp,Instr.sliceAt,run_underlying hun,Instr.slice,hev,hr,hn]
 ·rename_i s hk1
  rw[hk1]at hkd;have:=qbE hkd.symm;subst this;obtain⟨p,q,hk,hpq,hqn,hrun⟩:=qha (P:=P) hk;refine⟨_,hk,qR (v:=.d (.str (s.extract p q))) (o:=⟨dst,.slice t x lo hi none,ty,pos,after,guard⟩) fun cx r m L F st a w he hh hg=>?_⟩;have hev:=qdc hg he hv;obtain⟨b1,b2,b3,b4⟩:=bnds hg he;have hr:=hrun s.size false _ _ w (Nat.le_refl _) b1 b2 b3 b4;exact⟨.string (s.extract p q),by simp[execOp,Instr.sliceAt,run_underlying hun,Instr.slice,hev,hr],rfl⟩
 ·exact hk.elim
end
mutual
theorem qvl{i:Nat}:∀ {v:V},qiM i v=false->¬ qbz v i
 | .d _,_=>fun h=>h
 | .agg cs,h=>qef (l:=cs) h
 | .tup cs,h=>qef (l:=cs) h
 | .clo _ cs,h=>qef (l:=cs) h
 | .ptr j _,h=>fun e=>by have e:j=i:=e;subst e;simp[qiM]at h
 | .ep j _ _ _,h=>fun e=>by have e:j=i:=e;subst e;simp[qiM]at h
 | .sl j _ _ _,h=>fun e=>by have e:j=i:=e;subst e;simp[qiM]at h
 | .mp j,h=>fun e=>by have e:j=i:=e;subst e;simp[qiM]at h
 | .it j,h=>fun e=>by have e:j=i:=e;subst e;simp[qiM]at h
 | .yld,_=>fun h=>h
 | .unk,_=>fun h=>h
theorem qef{i:Nat}:∀ {l:List V},qam i l=false->¬ zc l i
 | [],_=>fun h=>h
 | v::r,h=>by
  simp only[qam,Bool.or_eq_false_iff]at h;exact fun e=>e.elim (qvl h.1) (qef h.2)
end
theorem zW(l:List (List D)):(ze l).flatten=inj l.flatten:=by
 induction l with
 | nil=>rfl
 | cons x r ih=>simp[ze,ih,qbH]
theorem qpu{i:Nat}{c:Cells}(h:c.free i=true):¬ zc c.toV i:=by
 cases c with
 | dd l=>exact jB l i
 | vv l=>exact qef (by simpa[Cells.free,Cells.toV]using h)
theorem qfi{i:Nat}{c:Els}(h:c.free i=true):¬ zc c.toV.flatten i:=by
 cases c with
 | dd l=>show ¬ zc (ze l).flatten i;rw[zW];exact jB _ i
 | vv l=>exact qef (by simpa[Els.free,Els.toV]using h)
section
variable {P : Program} {T : Tys} {e : Env} {h : Heap} {dst : Option Nat} {K : List Wr -> Prop} {ty : TypeId} {pos : String} {after : Array Edge} {guard : Option (Nat × Bool)}
theorem qol{F:Nat->Nat}{w:World}{yv:Option Nat}{L:Loc}:∀ {r:List V} {k:IntKind} {x:Int} {v:D} {l:List Value},qwj k x r=some v->RepVL yv L F w r l ->
  ∃ y,(l.foldlM Builtin.min2 (.int k x)).run P w = .ok y w/\RepD F w v y
 | [],k,x,v,l,h,hl=>by
  simp only[qwj,Option.some.injEq]at h;subst h;have:l = []:=hl;subst this;exact⟨.int k x,by simp,rfl⟩
 | c::r,k,x,v,l,h,hl=>by
  obtain⟨y,l',rfl,hc,hl'⟩:=hl
  cases c with
  | d c=>
   cases c<;>simp only[qwj]at h<;>first|(cases h;done)|skip
   rename_i k' b;have hc:y = .int k' b:=hc;subst hc;obtain⟨z,hz,hrz⟩:=qol h hl';refine⟨z,?_,hrz⟩;have:(if b<x then b else x)=min x b:=by simp only[Int.min_def];split<;>split<;>omega
   simp[Builtin.min2,this,hz]
  | _=>simp[qwj]at h
theorem qom{F:Nat->Nat}{w:World}{yv:Option Nat}{L:Loc}:∀ {r:List V} {k:IntKind} {x:Int} {v:D} {l:List Value},qwk k x r=some v->RepVL yv L F w r l ->
  ∃ y,(l.foldlM Builtin.max2 (.int k x)).run P w = .ok y w/\RepD F w v y
 | [],k,x,v,l,h,hl=>by
  simp only[qwk,Option.some.injEq]at h;subst h;have:l = []:=hl;subst this;exact⟨.int k x,by simp,rfl⟩
 | c::r,k,x,v,l,h,hl=>by
  obtain⟨y,l',rfl,hc,hl'⟩:=hl
  cases c with
  | d c=>
   cases c<;>simp only[qwk]at h<;>first|(cases h;done)|skip
   rename_i k' b;have hc:y = .int k' b:=hc;subst hc;obtain⟨z,hz,hrz⟩:=qom h hl';refine⟨z,?_,hrz⟩;have:(if x<b then b else x)=max x b:=by simp only[Int.max_def];split<;>split<;>omega
   simp[Builtin.max2,this,hz]
  | _=>simp[qwk]at h
theorem qvm{args:Array Operand}{tys:Array TypeId}(hk:jL T e h dst .min args tys K):∃ ws,K ws/\Out P e h ⟨dst,.call ⟨.builtin .min,args,tys⟩,ty,pos,after,guard⟩ ws:=by
 simp only[jL]at hk;split at hk;case h_2=>exact hk.elim
 rename_i k x r hr;split at hk;case h_2=>exact hk.elim
 rename_i v hm;refine⟨_,hk,qR (v:=.d v) (o:=⟨dst,.call ⟨.builtin .min,args,tys⟩,ty,pos,after,guard⟩) fun cx r' m L F st a w he hh hg=>?_⟩;obtain⟨y,l',hev,hy,hl'⟩:=hg.opnds (qcC he hr);have hy:y = .int k x:=hy;subst hy;obtain⟨z,hz,hrz⟩:=qol (P:=P) hm hl';have he':(args.map a.eval).toList = .int k x::l':=by simpa using hev
 have hm':(Builtin.min_ tys ty (args.map a.eval)).run P w = .ok z w:=by
  simp only[Builtin.min_,he'];exact hz
 exact⟨z,by simp[execOp,resolve,invoke,builtin,hm'],hrz⟩
theorem qvn{args:Array Operand}{tys:Array TypeId}(hk:jL T e h dst .max args tys K):∃ ws,K ws/\Out P e h ⟨dst,.call ⟨.builtin .max,args,tys⟩,ty,pos,after,guard⟩ ws:=by
 simp only[jL]at hk;split at hk;case h_2=>exact hk.elim
 rename_i k x r hr;split at hk;case h_2=>exact hk.elim
 rename_i v hm;refine⟨_,hk,qR (v:=.d v) (o:=⟨dst,.call ⟨.builtin .max,args,tys⟩,ty,pos,after,guard⟩) fun cx r' m L F st a w he hh hg=>?_⟩;obtain⟨y,l',hev,hy,hl'⟩:=hg.opnds (qcC he hr);have hy:y = .int k x:=hy;subst hy;obtain⟨z,hz,hrz⟩:=qom (P:=P) hm hl';have he':(args.map a.eval).toList = .int k x::l':=by simpa using hev
 have hm':(Builtin.max_ tys ty (args.map a.eval)).run P w = .ok z w:=by
  simp only[Builtin.max_,he'];exact hz
 exact⟨z,by simp[execOp,resolve,invoke,builtin,hm'],hrz⟩
theorem RepKv.at{F:Nat->Nat}{w:World}:∀ {kvs:List (D×D)} {es:List MapEntry} {i:Nat} {e:MapEntry},RepKv F w kvs es->es[i]?=some e -> ∃ k u,kvs[i]?=some (k,u)/\RepD F w k e.key/\RepD F w u e.val
 | [],es,i,e,hr,h=>by
  have:es = []:=hr;subst this;simp at h
 | (k,u)::r,es,0,e,hr,h=>by
  obtain⟨x,l,rfl,h1,h2,_⟩:=hr;simp at h;subst h;exact⟨k,u,rfl,h1,h2⟩
 | (k,u)::r,es,i+1,e,hr,h=>by
  obtain⟨x,l,rfl,_,_,h3⟩:=hr;simpa using RepKv.at h3 (by simpa using h)
theorem RepKv.get{F:Nat->Nat}{w:World}:∀ {kvs:List (D×D)} {es:List MapEntry},RepKv F w kvs es->es.length=kvs.length
 | [],es,h=>by rw[show es = [] from h];rfl
 | (k,v)::r,es,h=>by
  obtain⟨en,es',rfl,_,_,hr⟩:=h;simp[RepKv.get hr]
theorem qvo(hT:qU P T){args:Array Operand}{tys:Array TypeId}(hk:jL T e h dst .len args tys K):∃ ws,K ws/\Out P e h ⟨dst,.call ⟨.builtin .len,args,tys⟩,ty,pos,after,guard⟩ ws:=by
 simp only[jL]at hk;split at hk;case h_2=>exact hk.elim
 rename_i x t rest hargs htys;split at hk;case h_2=>exact hk.elim
 rename_i ti v ht hv;obtain⟨d,hun,hkd⟩:=jN hT ht;have h0:∀ (a:Act),(args.map a.eval)[0]?=some (a.eval x):=by
  intro a;have:args[0]?=some x:=by
   have:args.toList[0]?=some x:=by rw[hargs];rfl
   simpa using this
  simp[this]
 have hty:tys[0]?=some t:=by
  have:tys.toList[0]?=some t:=by rw[htys];rfl
  simpa using this
 have hrun:∀ (a:Act) (w:World) v,(Builtin.len_ tys ty (args.map a.eval)).run P w = .ok v w->(execOp a.eval ⟨dst,.call ⟨.builtin .len,args,tys⟩,ty,pos,after,guard⟩).run P w = .ok (.value v) w:=fun a w v hv=>by
  simp[execOp,resolve,invoke,builtin,hv]
 have sl:∀ (n:Nat) (el:TypeId),d = .slice el->(∀ (yv:Option Nat) (L:Loc) (F:Nat->Nat) (w:World) (y:Value),RepV yv L F w v y -> ∃ b c,y = .slice b n c)->K (wset dst (.d (.int .i64 n))) ->
   ∃ ws,K ws/\Out P e h ⟨dst,.call ⟨.builtin .len,args,tys⟩,ty,pos,after,guard⟩ ws:=by
  intro n el hd hr hk;subst hd;refine⟨_,hk,qR (v:=.d (.int .i64 n)) (o:=⟨dst,.call ⟨.builtin .len,args,tys⟩,ty,pos,after,guard⟩) fun cx r' m L F st a w he hh hg=>?_⟩;obtain⟨b,c,hev⟩:=hr _ _ _ _ _ (hg.opnd (qo he hv));exact⟨.int .i64 n,hrun a w _ (by simp[Builtin.len_,hty,h0,run_underlying hun,hev,goInt]),rfl⟩
 split at hk
 ·rename_i el es hk1
  rw[hk1]at hkd;exact sl es.length el (jI hkd.symm) (fun yv L F w y hr=>by obtain⟨b,n,c,rfl,rfl,_⟩:=hr;exact⟨b,c,rfl⟩) hk
 ·rename_i el hk1
  rw[hk1]at hkd;exact sl 0 el (jI hkd.symm) (fun yv L F w y hr=>by have hr:y = .slice none 0 0:=hr;exact⟨none,0,hr⟩) hk
 ·rename_i el id sz off n hk1
  rw[hk1]at hkd;exact sl n el (jI hkd.symm) (fun yv L F w y hr=>by obtain⟨b,c,rfl,_⟩:=hr;exact⟨b,c,rfl⟩) hk
 ·rename_i s hk1
  rw[hk1]at hkd;have:=qbE hkd.symm;subst this;refine⟨_,hk,qR (v:=.d (.int .i64 s.size)) (o:=⟨dst,.call ⟨.builtin .len,args,tys⟩,ty,pos,after,guard⟩) fun cx r' m L F st a w he hh hg=>?_⟩;have hev:=qdc hg he hv;exact⟨.int .i64 s.size,hrun a w _ (by simp[Builtin.len_,hty,h0,run_underlying hun,hev,goInt]),rfl⟩
 ·rename_i n el hk1
  rw[hk1]at hkd;have:=qag hkd.symm;subst this;refine⟨_,hk,qR (v:=.d (.int .i64 n)) (o:=⟨dst,.call ⟨.builtin .len,args,tys⟩,ty,pos,after,guard⟩) fun cx r' m L F st a w he hh hg=>?_⟩;exact⟨.int .i64 n,hrun a w _ (by simp[Builtin.len_,hty,h0,run_underlying hun,goInt]),rfl⟩
 ·rename_i mk me id hk1
  rw[hk1]at hkd;have:=qgZ hkd.symm;subst this;split at hk;case h_2=>exact hk.elim
  rename_i kvs hid;refine⟨_,hk,qR (v:=.d (.int .i64 kvs.length)) (o:=⟨dst,.call ⟨.builtin .len,args,tys⟩,ty,pos,after,guard⟩) fun cx r' m L F st a w he hh hg=>?_⟩;have hev:a.eval x = .map (some (L.ρ id)):=hg.opnd (qo he hv);obtain⟨en,c,hb,hr,_⟩:=hg.heap.obj id _ (hh _ _ hid);have hl:en.size=kvs.length:=by simpa using RepKv.get hr
  exact⟨.int .i64 kvs.length,hrun a w _ (by simp[Builtin.len_,hty,h0,run_underlying hun,hev,getObj,Sem.run,hb,goInt,hl]),rfl⟩
 ·rename_i mk me kvs hk1
  rw[hk1]at hkd;have:=qgZ hkd.symm;subst this;refine⟨_,hk,qR (v:=.d (.int .i64 kvs.length)) (o:=⟨dst,.call ⟨.builtin .len,args,tys⟩,ty,pos,after,guard⟩) fun cx r' m L F st a w he hh hg=>?_⟩;obtain⟨b,en,c,hev,_,hb,hr⟩:=hg.opnd (qo he hv);have hl:en.size=kvs.length:=by simpa using RepKv.get hr
  exact⟨.int .i64 kvs.length,hrun a w _ (by simp[Builtin.len_,hty,h0,run_underlying hun,hev,getObj,Sem.run,hb,goInt,hl]),rfl⟩
 ·exact hk.elim
theorem RepVL.newLoc{yv:Option Nat}{L L':Loc}{F:Nat->Nat}{w w':World}(tr:Tr F w F w'){id:Nat}(hL:∀ i,i≠id->L'.ρ i=L.ρ i/\L'.κ i=L.κ i){cs:List V}{l:List Value}(hf:¬ zc cs id)(h:RepVL yv L F w cs l):RepVL yv L' F w' cs l:=
 RepVL.mono tr cs l (fun i hi=>hL i (by rintro rfl;exact hf hi)) h
theorem qja{op:Op}{d:Nat}{c:Cells}(hf:¬ zc c.toV d)
  (hr:∀ {σ:Type} (cx:Cx σ) (r:Option Nat) (m:List Nat) (L:Loc) (F:Nat->Nat) (st:St σ) (a:Act) (w:World),qaF e st.env->qaF h st.heap->Good cx r m L F st a w ->
   ∃ (l:Array Value) (t:TypeId),(execOp a.eval ⟨some d,op,ty,pos,after,guard⟩).run P w = .ok (.value (.pointer (some ⟨w.heap.size,0,none⟩))) (w.alloc (.cells l t))/\RepVL cx.yv L F w c.toV l.toList) :
  Out P e h ⟨some d,op,ty,pos,after,guard⟩ [.new d (.box c),.set d (.ptr d 0)]:=by
 intro σ cx r m L F st a w he hh hg hd;obtain⟨l,t,hrun,hl⟩:=hr cx r m L F st a w he hh hg;have tr:Tr F w F (w.alloc (.cells l t)):=Tr.alloc hg.heap.fresh _;have hgn:=hg.new d 0 (.box c) (.cells l t) (hg.unpinned (hd d rfl)) ⟨l,t,(by show(w.alloc _).heap[if d=d then w.heap.size else L.ρ d]?=_;rw[if_pos rfl];exact heap_alloc_new w _),RepVL.newLoc tr (fun i hi=>by simp[hi]) hf hl⟩;exact⟨_,_,_,hrun,.inl rfl,_,F,hgn.set (v:=.ptr d 0) (hd d rfl) (by show Value.pointer _=Value.pointer _;simp),tr⟩
theorem qqZ(hT:qU P T){t:TypeId}(hk:opK T e h dst (.alloc t) K):∃ ws,K ws/\Out P e h ⟨dst,.alloc t,ty,pos,after,guard⟩ ws:=by
 simp only[opK]at hk;split at hk;case h_2=>exact hk.elim
 rename_i ti d ht;split at hk;case h_3=>exact hk.elim
 ·rename_i hz
  obtain⟨hlen,hk⟩:=zw hk;obtain⟨i,de,hi,hde,_,_,_,_,_,hzz⟩:=hT t ti ht;obtain⟨zv,hzv,hzc,_⟩:=hzz _ hz;refine⟨_,hk,?_⟩;intro σ cx r m L F st a w he hh hg hd;have tr:Tr F w F (w.alloc (.cells zv.cells t)):=Tr.alloc hg.heap.fresh _;have hgn:=hg.new d 0 (.tb t [.d .nilp,.d .nils]) (.cells zv.cells t) (hg.unpinned (hd d rfl)) ⟨zv.cells,(by show(w.alloc _).heap[if d=d then w.heap.size else L.ρ d]?=_;rw[if_pos rfl];exact heap_alloc_new w _),RepVL.inj.2 (qbI (F:=F) hzc)⟩;exact⟨.pointer (some ⟨w.heap.size,0,none⟩),_,_,by simp[execOp,Instr.alloc,zeroValue,typeInfo,hi,hzv,newVar,newRow],.inl rfl,_,F,hgn.set (v:=.ptr d 0) (hd d rfl) (by show Value.pointer _=Value.pointer _;simp),tr⟩
 rename_i z _ hz;obtain⟨hlen,hk⟩:=zw hk;obtain⟨i,de,hi,hde,_,_,_,_,_,hzz⟩:=hT t ti ht;obtain⟨zv,hzv,hzc,_⟩:=hzz z hz;refine⟨_,hk,qja (c:=.dd z) (jB z d) fun cx r m L F st a w he hh hg=>⟨zv.cells,t,?_,RepVL.inj.2 (qbI hzc)⟩⟩;simp[execOp,Instr.alloc,zeroValue,typeInfo,hi,hzv,newVar,newRow]
theorem qvp{t:TypeId}{x:Operand}(hk:opK T e h dst (.box t x) K):∃ ws,K ws/\Out P e h ⟨dst,.box t x,ty,pos,after,guard⟩ ws:=by
 simp only[opK]at hk;split at hk;case h_2=>exact hk.elim
 rename_i v d hv;obtain⟨hc,hk⟩:=zw hk;simp only[Bool.and_eq_true]at hc;refine⟨_,hk,qja (qpu hc.2) fun cx r m L F st a w he hh hg=>⟨(a.eval x).cells,t,?_,(hg.opnd (qo he hv)).cells hc.1⟩⟩;simp[execOp,Instr.box,newVar,newRow]
end
end Go.PX
namespace Go.PX
open Go.RowKit
section
variable {yv : Option Nat} {L : Loc} {F : Nat -> Nat} {w : World}
theorem RepV.cells'{a:V}{v:Value}(h:RepV yv L F w a v):RepVL yv L F w a.cells.toV v.cells.toList:=by
 by_cases hs:a.cells.ok=true
 ·exact h.cells hs
 ·cases a with
  | d x=>
   cases x with
   | agg cs=>
    obtain⟨l,rfl,hl⟩:=h;exact RepVL.inj.2 hl
   | tup cs=>
    obtain⟨l,rfl,hl⟩:=h;exact⟨.tuple l,[],rfl,⟨l,rfl,hl⟩,rfl⟩
   | _=>exact absurd rfl hs
  | agg cs=>
   obtain⟨l,rfl,hl⟩:=h;exact hl
  | tup cs=>
   obtain⟨l,rfl,hl⟩:=h;exact⟨.tuple l,[],rfl,⟨l,rfl,hl⟩,rfl⟩
  | _=>exact absurd rfl hs
theorem Cells.splice_toV(c:Cells)(off:Nat)(x:Cells):(c.splice off x).toV=c.toV.take off++x.toV++c.toV.drop (off+x.toV.length):=by
 cases c<;>cases x<;>simp[Cells.splice,Cells.toV,qbH,qjV,qjW,jl]
theorem qdg{α:Type}{cs l:List α}{off i:Nat}(h:off<=cs.length)(h1:off<=i)(h2:i<off+l.length):(cs.take off++l++cs.drop (off+l.length))[i]?=l[i-off]?:=by
 rw[List.append_assoc,List.getElem?_append_right (by simp;omega),List.getElem?_append_left (by simp;omega)];simp[Nat.min_eq_left h]
theorem qcs{α:Type}{cs l:List α}{off i:Nat}(h:off+l.length<=cs.length)(h1:i<off\/off+l.length<=i):(cs.take off++l++cs.drop (off+l.length))[i]?=cs[i]?:=by
 rcases h1 with h1|h1
 ·rw[List.append_assoc,List.getElem?_append_left (by simp;omega),List.getElem?_take_of_lt h1]
 ·rw[List.getElem?_append_right (by simp;omega),List.getElem?_drop]
  congr 1
  simp;omega
theorem qax{α:Type}{cs l:List α}{off:Nat}(h:off+l.length<=cs.length):(cs.take off++l++cs.drop (off+l.length)).length=cs.length:=by
 simp;omega
theorem RepVL.splice{cs ds:List V}{l k:List Value}(off:Nat)(h:RepVL yv L F w cs l)(g:RepVL yv L F w ds k) :
  RepVL yv L F w (cs.take off++ds++cs.drop (off+ds.length)) (l.take off++k++l.drop (off+k.length)):=by
 have:=g.length;rw[this];exact((h.take off).append g).append (h.drop _)
theorem Els.cons_toV(x:Cells)(c:Els):(c.cons x).toV=x.toV::c.toV:=by
 cases x<;>cases c<;>rfl
theorem qgx{n:Nat}:∀ {l:List (Nat×V)} {i:Nat} {es:Els},qho n i l=some es->es.toV=l.map (fun p=>p.2.cells.toV)/\l.map (·.1)=List.range' i l.length /\ ∀ p∈l,p.2.cells.toV.length=n
 | [],i,es,h=>by simp only[qho,Option.some.injEq]at h;subst h;simp[Els.toV,ze]
 | (j,v)::r,i,es,h=>by
  simp only[qho]at h;split at h;case h_2=>cases h
  rename_i es' hj hn hr;cases h;have hj:=qah hj;have hn:=qah hn;rw[Cells.len_eq]at hn;obtain⟨h1,h2,h3⟩:=qgx hr;refine⟨by rw[Els.cons_toV,h1];rfl,by simp[h2,hj,List.range'_succ],fun p hp=>?_⟩;rcases List.mem_cons.1 hp with rfl|hp
  ·exact hn
  ·exact h3 p hp
theorem qjb{sz:Nat}:∀ {xs:List V} {vs:List Value},RepVL yv L F w xs vs->(∀ x∈xs,x.cells.toV.length=sz)->RepVL yv L F w (xs.flatMap (·.cells.toV)) (vs.flatMap fun v=>v.cells.toList) /\ ∀ v∈vs,v.cells.size=sz
 | [],vs,h,_=>by
  have:vs = []:=h;subst this;exact⟨rfl,by simp⟩
 | x::xs,vs,h,hs=>by
  obtain⟨v,l,rfl,hx,hl⟩:=h;obtain⟨h1,h2⟩:=qjb hl fun y hy=>hs y (List.mem_cons_of_mem _ hy);refine⟨by simpa using hx.cells'.append h1,fun u hu=>?_⟩;rcases List.mem_cons.1 hu with rfl|hu
  ·have:=hx.cells'.length
   rw[hs x (List.mem_cons_self ..)]at this;simpa using this
  ·exact h2 u hu
theorem qhw{n:Nat}:∀ {l:List (List V)},qfY n l=true -> ∀ e∈l,e.length=n/\zt e=true
 | [],_,_,he=>by cases he
 | x::r,h,e,he=>by
  simp only[qfY]at h;split at h;case h_2=>cases h
  rename_i h1 h2;rcases List.mem_cons.1 he with rfl|he
  ·exact⟨qah h1,h2⟩
  ·exact qhw h e he
theorem qlt{n:Nat}:∀ {l:List (List D)},qcr n l=true->qfY n (ze l)=true
 | [],_=>rfl
 | x::r,h=>by
  simp only[qcr]at h;split at h;case h_2=>cases h
  rename_i h1 h2;simp only[ze,qfY,jl,h1,qdf,h2];exact qlt h
theorem qon{n:Nat}{es:Els}(h:es.ok n=true):∀ e∈es.toV,e.length=n/\zt e=true:=by
 cases es with
 | dd l=>exact qhw (qlt h)
 | vv l=>exact qhw h
theorem qdA:∀ {l m:List V},zt l=true->zt m=true->zt (l++m)=true
 | [],_,_,h=>h
 | x::r,m,h,k=>by
  simp only[zt,Bool.and_eq_true]at h;simp[zt,h.1,qdA h.2 k]
theorem qai:∀ {l:List (List V)},(∀ e∈l,zt e=true)->zt l.flatten=true
 | [],_=>rfl
 | x::r,h=>by
  rw[List.flatten_cons];exact qdA (h x (List.mem_cons_self ..)) (qai fun e he=>h e (List.mem_cons_of_mem _ he))
end
section
variable {P : Program} {T : Tys} {e : Env} {h : Heap} {dst : Option Nat} {K : List Wr -> Prop} {ty : TypeId} {pos : String} {after : Array Edge} {guard : Option (Nat × Bool)}
theorem qdh{σ:Type}{cx:Cx σ}{r:Option Nat}{m:List Nat}{L:Loc}{F:Nat->Nat}{st:St σ}{a:Act}{w:World}(hg:Good cx r m L F st a w)(he:qaF e st.env):∀ {ps:List (Nat×Operand)} {l:List (Nat×V)},qfX e ps=some l ->
  l.map (·.1)=ps.map (·.1)/\RepVL cx.yv L F w (l.map (·.2)) (ps.map fun p=>a.eval p.2)
 | [],l,hp=>by simp only[qfX,Option.some.injEq]at hp;subst hp;exact⟨rfl,rfl⟩
 | (i,x)::r,l,hp=>by
  simp only[qfX]at hp;split at hp
  ·rename_i v l' hv hl
   cases hp;obtain⟨h1,h2⟩:=qdh hg he hl;exact⟨by simp[h1],_,_,rfl,hg.opnd (qo he hv),h2⟩
  ·cases hp
theorem qcD(hT:qU P T){t:TypeId}{ei:TyI}(h:qaG T t=some ei):∃ el,P.underlying t=some (.slice el)/\T.get el=some ei:=by
 unfold qaG at h;split at h;case h_2=>cases h
 rename_i ti hti;split at h;case h_2=>cases h
 rename_i el hk;obtain⟨d,hu,hkd⟩:=jN hT hti;rw[hk]at hkd;exact⟨el,by rw[hu,jI hkd.symm],h⟩
theorem qhb(hT:qU P T){el:TypeId}{ei:TyI}(hei:T.get el=some ei)(h:qfa ei=true) :
  ∃ i z,P.info? el=some i/\i.zero=some z/\0<ei.size/\0<ei.bytes/\ei.size=i.size/\ei.bytes=i.bytes/\z.cells.size=i.size:=by
 obtain⟨i,d,hi,hd,hsz,hby,_,_,_,hz⟩:=hT el ei hei;simp only[qfa,Bool.and_eq_true]at h;obtain⟨⟨h1,h2⟩,h3⟩:=h;unfold qqJ at h3;split at h3;case h_2=>cases h3
 rename_i z hzz;obtain⟨zv,hzv,hzc,_⟩:=hz z hzz;have hl:=(qbI (F:=fun _=>0) (w:=default) hzc).length;have h1:=qlk h1;have h2:=qlk h2;have h3:=qah h3;exact⟨i,zv,hi,hzv,by omega,by omega,hsz,hby,by rw[<- hsz,<- h3,<- hl];simp⟩
theorem qiO(hT:qU P T){t:TypeId}{n:Nat}{ps:Array (Nat×Operand)}(hk:opK T e h dst (.buildSlice t n ps) K):∃ ws,K ws/\Out P e h ⟨dst,.buildSlice t n ps,ty,pos,after,guard⟩ ws:=by
 simp only[opK]at hk;split at hk;case h_2=>exact hk.elim
 rename_i l ei d hl hs;obtain⟨hc,hk⟩:=zw hk;simp only[Bool.and_eq_true]at hc;obtain⟨⟨hln,hok⟩,hbig⟩:=hc;have hln:=qah hln;have hbig:=qga hbig;split at hk;case h_2=>exact hk.elim
 rename_i es hes;obtain⟨hc,hk⟩:=zw hk;simp only[Bool.and_eq_true]at hc;obtain⟨heok,hfree⟩:=hc;obtain⟨el,hu,hei⟩:=qcD hT hs;obtain⟨ie,z,hie,hz',hsz,hby,hsize,hbytes,hzs⟩:=qhb hT hei hok;obtain⟨he1,he2,he3⟩:=qgx hes;have heo:=qon heok;refine⟨_,hk,?_⟩;intro σ cx r m L F st a w he hh hg hd;obtain⟨hp1,hp2⟩:=qdh hg he hl
 let vs:=ps.toList.map fun p=>a.eval p.2
 have hpl:ps.toList.length=n:=by
  have:=congrArg List.length hp1;simp only[List.length_map]at this;omega
 have hvl:vs.length=n:=by simpa[vs]using hpl
 have hcl:∀ x∈l.map (·.2),x.cells.toV.length=ei.size:=by
  intro x hx;obtain⟨p,hp,rfl⟩:=List.mem_map.1 hx;exact he3 _ hp
 obtain⟨hflat,hvs⟩:=qjb hp2 hcl;have hparts:(ps.map fun(i,x)=>(i,a.eval x)).toList=(vs.zipIdx 0).map fun x=>(x.2,x.1):=by
  have h1:ps.toList.map (·.1)=List.range' 0 n:=by rw[<- hp1,he2,hln]
  apply List.ext_getElem?;intro k;simp only[Array.toList_map,List.getElem?_map,List.getElem?_zipIdx,vs]
  cases hk:ps.toList[k]? with
  | none=>simp
  | some p=>
   have h2:(ps.toList.map (·.1))[k]?=some p.1:=by simp[List.getElem?_map,hk]
   have hkn:k<n:=by
    have:=(List.getElem?_eq_some_iff.1 hk).1;omega
   rw[h1,List.getElem?_range' hkn]at h2;simp at h2;simp[h2]
 let cells:Array Value:=(vs.flatMap fun v=>v.cells.toList).toArray
 have hfe:(l.map (·.2)).flatMap (·.cells.toV)=es.toV.flatten:=by rw[he1,List.flatMap_def,List.map_map];rfl
 have hesl:es.toV.length=n:=by rw[he1];simp[hln]
 have hlens:zL ei.size es.toV:=fun e he=>(heo e he).1;have hcsz:cells.size=n*ei.size:=by
  have h1:=hflat.length;rw[hfe,qbP hlens,hesl]at h1;simpa[cells,vs]using h1
 have hrun:(execOp a.eval ⟨some d,.buildSlice t n ps,ty,pos,after,guard⟩).run P w = .ok (.value (.slice (some ⟨w.heap.size,0,none⟩) n n)) (w.alloc (.cells cells el)):=by
  have:(Instr.buildSlice t n (ps.map fun(i,x)=>(i,a.eval x))).run P w = .ok (.slice (some ⟨w.heap.size,0,none⟩) n n) (w.alloc (.cells cells el)):=by
   rcases Nat.eq_zero_or_pos n with h0|h0
   ·subst h0
    have hv0:vs = []:=List.length_eq_zero_iff.1 hvl;have hps:ps = #[]:=by simpa using hpl
    subst hps;have hce:cells = #[]:=by simp[cells,hv0]
    rw[hce];simp[Instr.buildSlice,run_underlying hu,sizeOf,typeInfo,hie,Instr.fill,newRow]
    congr 2
    apply Array.eq_empty_of_size_eq_zero;simp
   ·refine run_buildSlice w t el n _ cells ie z hu hie hz' (by rw[<- hsize];omega) (by rw[<- hsize];exact Nat.ne_of_gt (Nat.mul_pos h0 hsz)) ?_
    rw[hparts,<- hsize];refine Great.fill_whole hsz vs _ hvs ?_;simp[hvl]
  simp[execOp,this]
 have tr:Tr F w F (w.alloc (.cells cells el)):=Tr.alloc hg.heap.fresh _;have hgn:=hg.new d cells.size (.arr ei.size es) (.cells cells el) (hg.unpinned (hd d rfl)) ⟨hsz,hlens,.inr ⟨cells,el,(by show(w.alloc _).heap[if d=d then w.heap.size else L.ρ d]?=_;rw[if_pos rfl];exact heap_alloc_new w _),(by simp),(by rw[hesl,hcsz];exact Nat.le_refl _),(by
  rw[hesl,<- hcsz];have:cells.toList.take cells.size=cells.toList:=by rw[<- Array.length_toList,List.take_length]
  rw[this];refine RepVL.newLoc (L:=L) tr (fun i hi=>by simp[hi]) (qfi hfree) ?_;rw[<- hfe];simpa[cells,vs]using hflat)⟩⟩
 refine⟨_,_,_,hrun,.inl rfl,_,F,hgn.set (v:=.sl d ei.size 0 n) (hd d rfl) ⟨_,_,rfl,Nat.le_refl _,hsz,.inr ⟨(by simp),(by simp[hcsz])⟩⟩,tr⟩
theorem qkd{yv:Option Nat}{L:Loc}{F:Nat->Nat}{w:World}{place:Nat->Option (Nat×Nat)}{fs:List (Nat×Nat)}(hpl:∀ i p,fs[i]?=some p->place i=some p):∀ {l:List (Nat×V)} {vs:List Value} {cs cs':Cells} {cells:Array Value},
  qcz fs cs l=some cs'->RepVL yv L F w (l.map (·.2)) vs->RepVL yv L F w cs.toV cells.toList ->
  ∃ r,Instr.fill place cells ((l.map (·.1)).zip vs)=some r/\RepVL yv L F w cs'.toV r.toList
 | [],vs,cs,cs',cells,h,hv,hc=>by
  simp only[qcz,Option.some.injEq]at h;subst h;exact⟨cells,by simp[Instr.fill],hc⟩
 | (i,v)::r,vs,cs,cs',cells,h,hv,hc=>by
  simp only[qcz]at h;obtain⟨x,vs',rfl,hx,hvs⟩:=hv;split at h;case h_2=>cases h
  rename_i off n hi;split at h;case h_2=>cases h
  rename_i hc1 hc2;have hc1:=qah hc1;have hc2:=qga hc2;rw[Cells.len_eq]at hc1 hc2;have hxl:=hx.cells'.length;have hcl:=hc.length;have hxs:x.cells.size=n:=by rw[<- hc1,<- hxl];simp
  obtain⟨g1,g2⟩:=Great.foldl_set off x.cells.toList 0 cells;simp only[Nat.add_zero]at g2;have hstep:RepVL yv L F w (cs.splice off v.cells).toV ((x.cells.toList.zipIdx 0).foldl (fun cs (y:Value×Nat)=>cs.setIfInBounds (off+y.2) y.1) cells).toList:=by
   rw[Cells.splice_toV];refine .of_get ?_ fun k c hk=>?_
   ·rw[qax (by omega)]
    simp[g1]at hcl ⊢;omega
   ·have hk':∀ y,(if off<=k/\k<off+x.cells.toList.length/\k<cells.size then x.cells.toList[k-off]? else cells[k]?)=some y ->
      ((x.cells.toList.zipIdx 0).foldl (fun cs (y:Value×Nat)=>cs.setIfInBounds (off+y.2) y.1) cells).toList[k]?=some y:=fun y hy=>by
     rw[<- g2 k]at hy;simpa using hy
    have hcsz:cells.size=cs.toV.length:=by simpa using hcl
    by_cases hin:off<=k/\k<off+n
    ·rw[qdg (by omega) hin.1 (by omega)]at hk
     obtain⟨y,hy,hry⟩:=RepVL.get _ hx.cells' hk;refine⟨y,hk' y ?_,hry⟩;rw[if_pos ⟨hin.1,by simp[hxs];omega,by omega⟩];exact hy
    ·rw[qcs (by omega) (by omega)]at hk
     obtain⟨y,hy,hry⟩:=RepVL.get _ hc hk;refine⟨y,hk' y ?_,hry⟩;rw[if_neg (by simp[hxs];omega)];simpa using hy
  obtain⟨res,hres,hrr⟩:=qkd hpl h hvs hstep;refine⟨res,?_,hrr⟩;simp only[List.map_cons,List.zip_cons_cons];unfold Instr.fill;simp only[hpl _ _ hi,hxs];have hcsz:cells.size=cs.toV.length:=by simpa using hcl
  rw[if_neg (by simp;omega),<- hres]
  congr 1
  rw[<- Array.foldl_toList,Array.toList_zipIdx]
theorem qjc(hT:qU P T){w:World}:∀ {fa:List Field} {sz:List (Nat×Nat)},qhn T (fa.map fun f=>(f.offset,f.type))=some sz ->
  (fa.mapM fun f=>(do pure (f.offset,<- sizeOf f.type):Sem (Nat×Nat))).run P w = .ok sz w
 | [],sz,h=>by simp only[List.map_nil,qhn,Option.some.injEq]at h;subst h;simp
 | f::fa,sz,h=>by
  simp only[List.map_cons,qhn]at h;split at h
  ·rename_i i l hi hl
   cases h;have:=qjc hT (w:=w) hl;simp only[List.mapM_cons,Sem.run_bind,jC hT hi,Result.andThen_ok,Sem.run_pure,this]
  ·cases h
theorem RepV.val{yv:Option Nat}{L:Loc}{F:Nat->Nat}{w:World}{c:Cells}{l:Array Value}(h:RepVL yv L F w c.toV l.toList):RepV yv L F w c.val (.agg l):=by
 cases c with
 | dd d=>exact⟨l,rfl,RepVL.inj.1 h⟩
 | vv d=>exact RepV.mkAgg h
theorem qlu(size:Nat):∀ (n k i:Nat) (p:Nat×Nat),(qmU size (k*size) n)[i]?=some p->some ((k+i)*size,size)=some p
 | 0,k,i,p,h=>by simp[qmU]at h
 | n+1,k,0,p,h=>by simpa[qmU]using h
 | n+1,k,i+1,p,h=>by
  have h:(qmU size (k*size+size) n)[i]?=some p:=by simpa[qmU]using h
  rw[show k*size+size=(k+1)*size by rw[Nat.add_mul,Nat.one_mul]]at h;have:=qlu size n (k+1) i p h;rw[<- this];congr 3;omega
theorem qjd{ps:Array (Nat×Operand)}(a:Act){l:List (Nat×V)}(hp1:l.map (·.1)=ps.toList.map (·.1)):(ps.map fun(i,x)=>(i,a.eval x)).toList=(l.map (·.1)).zip (ps.toList.map fun p=>a.eval p.2):=by
 rw[hp1];simp only[Array.toList_map];generalize ps.toList=q
 induction q with
 | nil=>rfl
 | cons x q ih=>simp[ih]
theorem qra(hT:qU P T){t:TypeId}{ps:Array (Nat×Operand)}(hk:opK T e h dst (.build t ps) K):∃ ws,K ws/\Out P e h ⟨dst,.build t ps,ty,pos,after,guard⟩ ws:=by
 simp only[opK]at hk;split at hk;case h_2=>exact hk.elim
 rename_i l ti hl hti;split at hk;case h_3=>exact hk.elim
 case h_2=>
  rename_i n el z hk1 hz;split at hk;case h_2=>exact hk.elim
  rename_i ei hei;split at hk;case h_2=>exact hk.elim
  rename_i cs hf;obtain⟨i,de,hi,hde,_,_,hkd,_,_,hzz⟩:=hT t ti hti;rw[hk1]at hkd;have:=qag hkd.symm;subst this;obtain⟨Z,hZ,hzc,_⟩:=hzz z hz;refine⟨_,hk,qR (v:=cs.val) (o:=⟨dst,.build t ps,ty,pos,after,guard⟩) fun cx r m L F st a w he hh hg=>?_⟩;have hzr:RepVL cx.yv L F w (Cells.dd z).toV Z.cells.toList:=RepVL.inj.2 (qbI hzc);obtain⟨hp1,hp2⟩:=qdh hg he hl;obtain⟨res,hr,hrr⟩:=qkd (place:=fun i=>some (i*ei.size,ei.size)) (fun i p h=>by have:=qlu ei.size n 0 i p (by rw[Nat.zero_mul];exact h);rw[Nat.zero_add]at this;exact this) hf hp2 hzr;have hparts:=qjd a hp1;refine⟨.agg res,?_,RepV.val hrr⟩;have h3:(Instr.build t (ps.map fun(i,x)=>(i,a.eval x))).run P w = .ok (.agg res) w:=by
   unfold Instr.build;simp only[Sem.run_bind,zeroValue,typeInfo,run_program,hi,Result.andThen_ok,Sem.run_pure,hZ,run_underlying hde,jC hT hei];rw[hparts,hr];simp
  simp[execOp,h3]
 rename_i fs z hk1 hz;split at hk;case h_2=>exact hk.elim
 rename_i sz hsz;split at hk;case h_2=>exact hk.elim
 rename_i cs hf;obtain⟨i,de,hi,hde,_,_,hkd,_,_,hzz⟩:=hT t ti hti;rw[hk1]at hkd;obtain⟨fa,rfl,rfl,_⟩:=qaX hkd.symm;obtain⟨Z,hZ,hzc,_⟩:=hzz z hz;refine⟨_,hk,qR (v:=cs.val) (o:=⟨dst,.build t ps,ty,pos,after,guard⟩) fun cx r m L F st a w he hh hg=>?_⟩;have hzr:RepVL cx.yv L F w (Cells.dd z).toV Z.cells.toList:=RepVL.inj.2 (qbI hzc);obtain⟨hp1,hp2⟩:=qdh hg he hl;obtain⟨res,hr,hrr⟩:=qkd (place:=fun i=>sz[i]?) (fun _ _ h=>h) hf hp2 hzr;have hparts:=qjd a hp1;have hpl:=qjc hT (w:=w) hsz;refine⟨.agg res,?_,RepV.val hrr⟩;have h2:(fa.mapM fun f=>(do pure (f.offset,<- sizeOf f.type):Sem (Nat×Nat))).run P w = .ok sz.toArray w:=by
  rw[Array.mapM_eq_mapM_toList];simp only[Sem.run_map,hpl,Result.andThen_ok]
 have h3:(Instr.build t (ps.map fun(i,x)=>(i,a.eval x))).run P w = .ok (.agg res) w:=by
  unfold Instr.build;simp only[Sem.run_bind,zeroValue,typeInfo,run_program,hi,Result.andThen_ok,Sem.run_pure,hZ,run_underlying hde,h2];rw[hparts];have:(fun(x:Nat)=>sz.toArray[x]?)=fun(i:Nat)=>sz[i]?:=by funext i;simp
  rw[this,hr];simp
 simp[execOp,h3]
theorem qdM(hT:qU P T){w:World}{t:TypeId}{ti:TyI}(ht:T.get t=some ti){b off:Nat}{l:Array Value}{E:TypeId}(hl:w.heap[b]?=some (.cells l E (0,0))){v:Value}
  (hn:v.cells.size=ti.size) (ho:off+ti.size<=l.size) (h1:∀ u∈v.cells.toList,u.oneCell'=true) :
  (storeVar t ⟨b,off,none⟩ v).run P w = .ok () (w.setRow b (l.toList.take off++v.cells.toList++l.toList.drop (off+v.cells.toList.length)).toArray):=by
 have:=run_storeCells_at (P:=P) b off E v.cells.toList 0 l w hl (by simp[hn];omega) h1;simp only[Nat.add_zero,Array.length_toList,hn]at this;simp[storeVar,jC hT ht,hn,this]
theorem qnd{α:Type}{sz:Nat}{es:List (List α)}(hl:zL sz es){i:Nat}{e:List α}(hi:es[i]?=some e){x:List α}{o:Nat}(ho:o+x.length<=sz) :
  (es.set i (e.take o++x++e.drop (o+x.length))).flatten=es.flatten.take (i*sz+o)++x++es.flatten.drop (i*sz+o+x.length):=by
 induction es generalizing i with
 | nil=>simp at hi
 | cons f r ih=>
  have hf:=hl f (List.mem_cons_self ..)
  cases i with
  | zero=>
   simp at hi;subst hi;simp only[List.set_cons_zero,List.flatten_cons,Nat.zero_mul,Nat.zero_add];rw[List.take_append_of_le_length (by omega),List.drop_append_of_le_length (by omega)];simp
  | succ i=>
   simp only[List.set_cons_succ,List.flatten_cons];rw[ih (fun e he=>hl e (List.mem_cons_of_mem _ he)) (by simpa using hi)];have e1:(i+1)*sz+o=f.length+(i*sz+o):=by rw[Nat.succ_mul];omega
   have e2:(i+1)*sz+o+x.length=f.length+(i*sz+o+x.length):=by rw[Nat.succ_mul];omega
   rw[e2,e1,List.take_length_add_append,List.drop_length_add_append];simp
theorem qhx{α:Type}{l Y:List α}{o n:Nat}(h:o+Y.length<=n)(hn:n<=l.length) :
  (l.take o++Y++l.drop (o+Y.length)).take n=(l.take n).take o++Y++(l.take n).drop (o+Y.length):=by
 have e1:(l.take n).length=n:=by rw[List.length_take];omega
 apply List.ext_getElem?;intro k;by_cases hk:k<n
 ·rw[List.getElem?_take_of_lt hk]
  by_cases hin:o<=k/\k<o+Y.length
  ·rw[qdg (by omega) hin.1 hin.2,qdg (by omega) hin.1 hin.2]
  ·rw[qcs (by omega) (by omega),qcs (by omega) (by omega),List.getElem?_take_of_lt hk]
 ·rw[List.getElem?_eq_none (by rw[List.length_take];omega),List.getElem?_eq_none (by rw[qax (by omega)];omega)]
theorem qvq(es:Els)(n:Nat)(x:Cells):(es.set n x).toV=es.toV.set n x.toV:=by
 cases es<;>cases x<;>simp[Els.set,Els.toV,Cells.toV,qZ,List.map_set]
theorem qrb(hT:qU P T){t:TypeId}{x y:Operand}(hk:opK T e h dst (.store t x y) K):∃ ws,K ws/\Out P e h ⟨dst,.store t x y,ty,pos,after,guard⟩ ws:=by
 simp only[opK]at hk
 cases dst with
 | some d=>exact hk.elim
 | none=>
 simp only[quH]at hk;split at hk;case h_2=>exact hk.elim
 rename_i u v ti hu hv ht;obtain⟨hc,hk⟩:=zw hk;simp only[Bool.and_eq_true]at hc;obtain⟨hlen,hok⟩:=hc;have hlen:=qah hlen;rw[Cells.len_eq]at hlen;split at hk
 ·rename_i id off hp
  split at hk;case h_3=>exact hk.elim
  ·rename_i cs hcs
   obtain⟨hb,hk⟩:=zw hk;have hb:=qga hb;rw[Cells.len_eq]at hb;refine⟨_,hk,?_⟩;intro σ cx r m L F st a w he hh hg hd;unfold qbq at hp;split at hp<;>cases hp;have hev:a.eval x = .pointer (some ⟨L.ρ id,off,none⟩):=hg.opnd (qo he hu);have hrv:=(hg.opnd (qo he hv)).cells';have hvl:=hrv.length;have h0:=hh _ _ hcs;obtain⟨l,E,hl,hr⟩:=hg.heap.obj id _ h0;have hll:=hr.length;have hst:=qdM hT (w:=w) ht hl (off:=off) (v:=a.eval y) (by rw[<- hlen,<- hvl];simp) (by simp at hll;omega) (hrv.one (by rw[<- Cells.ok_eq];exact hok));obtain⟨g1,g2⟩:=hg.obj (o:=.box (cs.splice off v.cells)) h0 trivial (w':=w.setRow (L.ρ id) (l.toList.take off++(a.eval y).cells.toList++l.toList.drop (off+(a.eval y).cells.toList.length)).toArray) rfl rfl rfl (size_setRow _ _ _) (fun b hb=>setRow_other _ _ _ _ hb)
    (by rw[hl];intro ds e;cases e) (by rw[hl];intro lp e;cases e)
    ⟨_,E,setRow_heap _ _ _ _ _ _ hl,by
     rw[Cells.splice_toV];have tr:Tr F w F (w.setRow (L.ρ id) (l.toList.take off++(a.eval y).cells.toList++l.toList.drop (off+(a.eval y).cells.toList.length)).toArray):=
      .of_keep rfl rfl rfl (by simp) (fun _=>Nat.le_refl _) hg.heap.fresh fun b _ hF=>setRow_other _ _ _ _ (by rintro rfl;have:=(hg.heap.own id _ h0 trivial).1;omega)
     exact RepVL.mono tr _ _ (fun _ _=>⟨rfl,rfl⟩) (by simpa using RepVL.splice off hr hrv)⟩
   exact⟨undef,_,.skip,by simp[execOp,Instr.storeAt,hev,Instr.sureAddr,hst],.inr ⟨rfl,rfl⟩,L,F,g1,g2⟩
  ·rename_i tt vl hcs
   obtain⟨hb,hk⟩:=zw hk;have hb:=qga hb;refine⟨_,hk,?_⟩;intro σ cx r m L F st a w he hh hg hd;unfold qbq at hp;split at hp<;>cases hp;have hev:a.eval x = .pointer (some ⟨L.ρ id,off,none⟩):=hg.opnd (qo he hu);have hrv:=(hg.opnd (qo he hv)).cells';have hvl:=hrv.length;have h0:=hh _ _ hcs;obtain⟨l,hl,hr⟩:=hg.heap.obj id _ h0;have hll:=hr.length;have hst:=qdM hT (w:=w) ht hl (off:=off) (v:=a.eval y) (by rw[<- hlen,<- hvl];simp) (by simp at hll;omega) (hrv.one (by rw[<- Cells.ok_eq];exact hok));obtain⟨g1,g2⟩:=hg.obj (o:=.tb tt ((Cells.vv vl).splice off v.cells).toV) h0 trivial (w':=w.setRow (L.ρ id) (l.toList.take off++(a.eval y).cells.toList++l.toList.drop (off+(a.eval y).cells.toList.length)).toArray) rfl rfl rfl (size_setRow _ _ _) (fun b hb=>setRow_other _ _ _ _ hb)
    (by rw[hl];intro ds e;cases e) (by rw[hl];intro lp e;cases e)
    ⟨_,setRow_heap _ _ _ _ _ _ hl,by
     rw[Cells.splice_toV];show RepVL cx.yv L F _ (vl.take off++v.cells.toV++vl.drop (off+v.cells.toV.length)) _;have tr:Tr F w F (w.setRow (L.ρ id) (l.toList.take off++(a.eval y).cells.toList++l.toList.drop (off+(a.eval y).cells.toList.length)).toArray):=
      .of_keep rfl rfl rfl (by simp) (fun _=>Nat.le_refl _) hg.heap.fresh fun b _ hF=>setRow_other _ _ _ _ (by rintro rfl;have:=(hg.heap.own id _ h0 trivial).1;omega)
     exact RepVL.mono tr _ _ (fun _ _=>⟨rfl,rfl⟩) (by simpa using RepVL.splice off hr hrv)⟩
   exact⟨undef,_,.skip,by simp[execOp,Instr.storeAt,hev,Instr.sureAddr,hst],.inr ⟨rfl,rfl⟩,L,F,g1,g2⟩
 ·rename_i id sz i off hp
  split at hk;case h_2=>exact hk.elim
  rename_i n es hes;obtain⟨hn,hk'⟩:=zw hk;have hn':=qah hn;clear hk hn;subst hn';obtain⟨c,hci,hk⟩:=qok hk';obtain⟨hb,hk⟩:=zw hk;have hb:=qga hb;rw[Cells.len_eq]at hb;refine⟨_,hk,?_⟩;intro σ cx r m L F st a w he hh hg hd;unfold qbq at hp;split at hp<;>cases hp;have hev:a.eval x = .pointer (some ⟨L.ρ id,i*n+off,none⟩):=hg.opnd (qo he hu);have hrv:=(hg.opnd (qo he hv)).cells';have hvl:=hrv.length;have h0:=hh _ _ hes;obtain⟨hs0,hlens,hrest⟩:=hg.heap.obj id _ h0;rcases hrest with⟨hnil,_⟩|⟨l,E,hl,hκ,hsz,hr⟩
  ·rw[hnil]at hci;simp at hci
  have hcl:c.toV.length=n:=hlens _ (List.mem_of_getElem? hci);have hil:i<es.toV.length:=(List.getElem?_eq_some_iff.1 hci).1;have hil':i*n+n<=es.toV.length*n:=by rw[<- Nat.succ_mul];exact Nat.mul_le_mul_right _ hil
  have hbk:Backed L id (.arr n es):=by
   show L.κ id≠0;have:0<es.toV.length*n:=Nat.mul_pos (by omega) hs0;omega
  have hst:=qdM hT (w:=w) ht hl (off:=i*n+off) (v:=a.eval y) (by rw[<- hlen,<- hvl];simp) (by omega) (hrv.one (by rw[<- Cells.ok_eq];exact hok));have hvl':(a.eval y).cells.toList.length=ti.size:=by rw[hvl,hlen]
  have hsp:=qax (cs:=l.toList) (l:=(a.eval y).cells.toList) (off:=i*n+off) (by rw[hvl'];simp;omega);generalize hc':(l.toList.take (i*n+off)++(a.eval y).cells.toList++l.toList.drop (i*n+off+(a.eval y).cells.toList.length)).toArray=c' at hst;have ce:c'.toList=l.toList.take (i*n+off)++(a.eval y).cells.toList++l.toList.drop (i*n+off+(a.eval y).cells.toList.length):=by rw[<- hc']
  have hcs':c'.size=l.size:=by rw[<- ce]at hsp;simpa using hsp
  have tr:Tr F w F (w.setRow (L.ρ id) c'):=
   .of_keep rfl rfl rfl (by simp) (fun _=>Nat.le_refl _) hg.heap.fresh fun b _ hF=>setRow_other _ _ _ _ (by rintro rfl;have:=(hg.heap.own id _ h0 hbk).1;omega)
  have hset:((es.set i (c.splice off v.cells)).toV)=es.toV.set i (c.toV.take off++v.cells.toV++c.toV.drop (off+v.cells.toV.length)):=by rw[qvq,Cells.splice_toV]
  obtain⟨g1,g2⟩:=hg.obj (o:=.arr n (es.set i (c.splice off v.cells))) h0 hbk (w':=w.setRow (L.ρ id) c') rfl rfl rfl (size_setRow _ _ _) (fun b hb=>setRow_other _ _ _ _ hb)
   (by rw[hl];intro ds e;cases e) (by rw[hl];intro lp e;cases e) (by
    refine⟨hs0,?_,.inr ⟨c',E,setRow_heap _ _ _ _ _ _ hl,?_,?_,?_⟩⟩
    ·rw[hset]
     intro e he;rcases List.mem_or_eq_of_mem_set he with he|rfl
     ·exact hlens e he
     ·rw[qax (by omega)];exact hcl
    ·rw[hcs',hκ]
    ·rw[hset,List.length_set,hcs'];exact hsz
    ·rw[hset,List.length_set,qnd hlens hci (by omega),ce]
     refine RepVL.mono tr _ _ (fun _ _=>⟨rfl,rfl⟩) ?_;have h1:=RepVL.splice (i*n+off) hr hrv;have e1:(l.toList.take (i*n+off)++(a.eval y).cells.toList++l.toList.drop (i*n+off+(a.eval y).cells.toList.length)).take (es.toV.length*n) =
       (l.toList.take (es.toV.length*n)).take (i*n+off)++(a.eval y).cells.toList++(l.toList.take (es.toV.length*n)).drop (i*n+off+(a.eval y).cells.toList.length):=by
      exact qhx (by omega) (by simp;omega)
     rw[e1];exact h1)
  exact⟨undef,_,.skip,by simp[execOp,Instr.storeAt,hev,Instr.sureAddr,hst],.inr ⟨rfl,rfl⟩,L,F,g1,g2⟩
 ·exact hk.elim
end
end Go.PX
