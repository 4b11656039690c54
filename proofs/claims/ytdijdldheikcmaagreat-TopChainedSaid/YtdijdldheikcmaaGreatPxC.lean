import Derived.Test.YtdijdldheikcmaaGreatPxB
import Derived.Great.BuildSlice
set_option linter.all false
namespace Go.PX
open Go.RowKit
theorem dV(b off n:Nat):(⟨b,off,none⟩:Addr).add n=⟨b,off+n,none⟩:=by
 unfold Addr.add;split
 ·rename_i h;subst h;rfl
 ·rfl
theorem bW.get{F:Nat->Nat}{w:World}:∀ {cs:List D} {b off:Nat} (i:Nat) {c:D},bW F w b off cs->cs[i]?=some c->off+i<F b /\ ∃ x,w.cell? ⟨b,off+i,none⟩=some x/\bq F w c x
 | [],_,_,i,c,_,hi=>by simp at hi
 | d::r,b,off,0,c,h,hi=>by
  simp at hi;subst hi;exact⟨h.1,h.2.1⟩
 | d::r,b,off,i+1,c,h,hi=>by
  have:=bW.get i h.2.2 (by simpa using hi);simpa[Nat.add_assoc,Nat.add_comm 1 i]using this
theorem bW.iL{F:Nat->Nat}{w:World}:∀ {cs:List D} {b off:Nat},(∀ (i:Nat) (c:D),cs[i]?=some c->off+i<F b /\ ∃ x,w.cell? ⟨b,off+i,none⟩=some x/\bq F w c x)->bW F w b off cs
 | [],_,_,_=>trivial
 | c::r,b,off,h=>⟨(h 0 c (by simp)).1,(h 0 c (by simp)).2,bW.iL fun i d hd=>by
   have:=h (i+1) d (by simpa using hd);simpa[Nat.add_assoc,Nat.add_comm 1 i]using this⟩
theorem bW.drop{F:Nat->Nat}{w:World}{cs:List D}{b off:Nat}(n:Nat)(h:bW F w b off cs):bW F w b (off+n) (cs.drop n):=
 .iL fun i c hc=>by
  rw[List.getElem?_drop]at hc;simpa[Nat.add_assoc]using bW.get _ h hc
theorem cv.get{F:Nat->Nat}{w:World}:∀ {es:List (List D)} {b off sz:Nat} (i:Nat) {e:List D},cv F w b off sz es->es[i]?=some e->e.length=sz/\bW F w b (off+i*sz) e
 | [],_,_,_,i,c,_,hi=>by simp at hi
 | d::r,b,off,sz,0,c,h,hi=>by
  simp at hi;subst hi;exact⟨h.1,by simpa using h.2.1⟩
 | d::r,b,off,sz,i+1,c,h,hi=>by
  have:=cv.get i h.2.2 (by simpa using hi);refine⟨this.1,?_⟩;have e:off+(i+1)*sz=off+sz+i*sz:=by rw[Nat.succ_mul];omega
  rw[e];exact this.2
theorem cv.iL{F:Nat->Nat}{w:World}:∀ {es:List (List D)} {b off sz:Nat},(∀ (i:Nat) (e:List D),es[i]?=some e->e.length=sz/\bW F w b (off+i*sz) e)->cv F w b off sz es
 | [],_,_,_,_=>trivial
 | e::r,b,off,sz,h=>⟨(h 0 e (by simp)).1,by simpa using (h 0 e (by simp)).2,cv.iL fun i d hd=>by
   have:=h (i+1) d (by simpa using hd);have e:off+(i+1)*sz=off+sz+i*sz:=by rw[Nat.succ_mul];omega
   rw[e]at this;exact this⟩
theorem cv.take{F:Nat->Nat}{w:World}{es:List (List D)}{b off sz:Nat}(n:Nat)(h:cv F w b off sz es):cv F w b off sz (es.take n):=
 .iL fun i e he=>by
  rw[List.getElem?_take]at he;split at he
  ·exact cv.get i h he
  ·simp at he
theorem cv.drop{F:Nat->Nat}{w:World}{es:List (List D)}{b off sz:Nat}(n:Nat)(h:cv F w b off sz es):cv F w b (off+n*sz) sz (es.drop n):=
 .iL fun i e he=>by
  rw[List.getElem?_drop]at he;have:=cv.get _ h he;rw[Nat.add_mul,<- Nat.add_assoc]at this;exact this
theorem iV:∀ {l:List V} {ds:List D},qJ l=some ds->l=inj ds
 | [],ds,h=>by simp[qJ]at h;subst h;rfl
 | v::r,ds,h=>by
  cases v<;>simp only[qJ]at h<;>first|(cases h;done)|skip
  rename_i d
  cases hr:qJ r with
  | none=>simp[hr]at h
  | some l=>simp[hr]at h;subst h;simp[inj,iV hr]
section
variable {yv : Option Nat} {L : Loc} {F : Nat -> Nat} {w : World}
theorem aR.qd{cs:List V}{l:Array Value}(h:ak yv L F w cs l.toList):aR yv L F w (qd cs) (.agg l):=by
 unfold PX.qd;split
 ·rename_i ds hd
  rw[iV hd]at h;exact⟨l,rfl,ak.inj.1 h⟩
 ·exact⟨l,rfl,h⟩
theorem Cells.hP(c:Cells):c.len=c.a5.length:=by
 cases c
 ·exact(dK _).symm
 ·rfl
theorem aR.sub{c:Cells}{off n:Nat}{l:Array Value}(h:ak yv L F w ((c.a5.drop off).take n) l.toList):aR yv L F w (c.sub off n) (.agg l):=by
 cases c with
 | dd d=>
  refine⟨l,rfl,?_⟩;simp only[Cells.a5,<- tN,<- tO]at h;exact ak.inj.1 h
 | vv d=>exact aR.qd h
theorem LK{c:Cells}{n:Nat}{K:V->Prop}(h:c.Ll n K):∃ v,c.a5[n]?=some v/\K v:=by
 cases c with
 | dd l=>
  obtain⟨v,hv,hk⟩:=lI h;exact⟨.d v,by simp[Cells.a5,sC,hv],hk⟩
 | vv l=>exact lI h
theorem tu{ti:nQ}{c:Cells}{off:Nat}{K:V->Prop}(h:c.oI ti off K) :
  ∃ v,K v/\((ti.isAgg=true/\off+ti.size<=c.a5.length/\v=c.sub off ti.size)\/(ti.isAgg=false/\c.a5[off]?=some v)):=by
 unfold Cells.oI at h;split at h
 ·rename_i hA
  obtain⟨hb,hk⟩:=bw h;rw[Cells.hP]at hb;exact⟨_,hk,.inl ⟨hA,kO hb,rfl⟩⟩
 ·rename_i hA
  obtain⟨v,hv,hk⟩:=LK h;exact⟨v,hk,.inr ⟨hA,hv⟩⟩
theorem s9{b off:Nat}:∀ {cs:List V} (n:Nat),n<=cs.length->(∀ (i:Nat) c,cs[i]?=some c -> ∃ v,w.cell? ⟨b,off+i,none⟩=some v/\aR yv L F w c v) ->
  ∃ l:List Value,ak yv L F w (cs.take n) l /\ ∀ (j:Nat) v,l[j]?=some v->w.cell? ⟨b,off+j,none⟩=some v
 | cs,0,_,_=>⟨[],by simp[ak],by simp⟩
 | cs,n+1,hn,h=>by
  obtain⟨l,hl,hj⟩:=s9 n (by omega) h;have dN:n<cs.length:=by omega
  obtain⟨v,hv,hr⟩:=h n cs[n] (by simp[dN]);have G8:l.length=n:=by have:=hl.length;simp at this;omega
  refine⟨l ++ [v],?_,?_⟩
  ·rw[List.take_succ_eq_append_getElem dN]
   exact hl.append ⟨v,[],rfl,hr,rfl⟩
  ·intro j u hu
   by_cases Xi:j<n
   ·rw[List.getElem?_append_left (by omega)]at hu
    exact hj j u hu
   ·rw[List.getElem?_append_right (by omega)]at hu
    have:j-l.length=0:=by
     rcases Nat.eq_zero_or_pos (j-l.length) with h0|h0
     ·exact h0
     ·rw[List.getElem?_eq_none (by simp;omega)]at hu;cases hu
    rw[this]at hu;simp at hu;subst hu;have:j=n:=by omega
    subst this;exact hv
theorem na{P:Program}{T:dJ}(hT:aY P T){t:TypeId}{ti:nQ}(ht:T.get t=some ti){b off o:Nat}{c:Cells}{v:V}
  (hc:∀ (i:Nat) x,(c.a5.drop o)[i]?=some x -> ∃ v,w.cell? ⟨b,off+i,none⟩=some v/\aR yv L F w x v)
  (hv:(ti.isAgg=true/\o+ti.size<=c.a5.length/\v=c.sub o ti.size)\/(ti.isAgg=false/\c.a5[o]?=some v)) :
  ∃ x,(loadVar t ⟨b,off,none⟩).run P w = .ok x w/\aR yv L F w v x:=by
 rcases hv with⟨hA,hn,rfl⟩|⟨hA,hv⟩
 ·obtain⟨l,hl,hj⟩:=s9 ti.size (by simp;omega) hc
  have G8:l.length=ti.size:=by have:=hl.length;simp at this;omega
  have bp:(loadCells ⟨b,off,none⟩ l.length).run P w = .ok l.toArray w:=
   run_loadCells_list (P:=P) w ⟨b,off,none⟩ l (fun j v hv=>by rw[dV];exact hj j v hv)
  rw[G8]at bp;exact⟨.agg l.toArray,by simp[loadVar,jk hT ht,hA,dp hT ht,bp],aR.sub (by simpa using hl)⟩
 ·obtain⟨x,hx,hr⟩:=hc 0 v (by rw[List.getElem?_drop];exact hv)
  exact⟨x,by simp[loadVar,jk hT ht,hA]at hx ⊢;simp[hx],hr⟩
theorem rA{α:Type}{sz:Nat}:∀ {es:List (List α)} {i j:Nat} {e:List α} {c:α},cy sz es->es[i]?=some e->e[j]?=some c->es.flatten[i*sz+j]?=some c
 | [],i,j,e,c,_,hi,_=>by simp at hi
 | f::es,0,j,e,c,h,hi,hj=>by
  simp at hi;subst hi;have:j<f.length:=(List.getElem?_eq_some_iff.1 hj).1;rw[List.flatten_cons,Nat.zero_mul,Nat.zero_add,List.getElem?_append_left this];exact hj
 | f::es,i+1,j,e,c,h,hi,hj=>by
  have hf:=h f (List.mem_cons_self ..);rw[List.flatten_cons,List.getElem?_append_right (by rw[Nat.succ_mul];omega)];have:(i+1)*sz+j-f.length=i*sz+j:=by rw[Nat.succ_mul];omega
  rw[this];exact rA (fun e he=>h e (List.mem_cons_of_mem _ he)) (by simpa using hi) hj
theorem ir{α:Type}{sz:Nat}:∀ {es:List (List α)},cy sz es->es.flatten.length=es.length*sz
 | [],_=>by simp
 | f::es,h=>by
  rw[List.flatten_cons,List.length_append,ir (fun e he=>h e (List.mem_cons_of_mem _ he)),h f (List.mem_cons_self ..),List.length_cons,Nat.succ_mul];omega
theorem yz{es:aI}{n:Nat}{K:Cells->Prop}(h:es.Ll n K):∃ c,es.a5[n]?=some c.a5/\K c:=by
 cases es with
 | dd l=>
  obtain⟨v,hv,hk⟩:=lI h;exact⟨.dd v,by simp[aI.a5,cn,hv,Cells.a5],hk⟩
 | vv l=>
  obtain⟨v,hv,hk⟩:=lI h;exact⟨.vv v,by simp[aI.a5,hv,Cells.a5],hk⟩
theorem bE.D7{id:Nat}{c:Cells}(h:bE yv L F w id (.box c))(o:Nat):∀ (i:Nat) x,(c.a5.drop o)[i]?=some x -> ∃ v,w.cell? ⟨L.ρ id,o+i,none⟩=some v/\aR yv L F w x v:=by
 intro i x hx;obtain⟨l,T,hl,hr⟩:=h;rw[List.getElem?_drop]at hx;obtain⟨v,hv,y0⟩:=ak.get _ hr hx;exact⟨v,by rw[cell_of_row _ _ _ _ _ _ hl];simpa using hv,y0⟩
theorem bE.D1{id sz i:Nat}{es:aI}{c:Cells}(h:bE yv L F w id (.arr sz es))(hi:es.a5[i]?=some c.a5)(o:Nat) :
  ∀ (j:Nat) x,(c.a5.drop o)[j]?=some x -> ∃ v,w.cell? ⟨L.ρ id,i*sz+o+j,none⟩=some v/\aR yv L F w x v:=by
 intro j x hx;obtain⟨hs,hl,h⟩:=h;rw[List.getElem?_drop]at hx;rcases h with⟨he,_⟩|⟨l,T,iF,hk,hn,hr⟩
 ·rw[he]at hi;simp at hi
 ·have hg:=rA hl hi hx
  obtain⟨v,hv,y0⟩:=ak.get _ hr hg;refine⟨v,?_,y0⟩;rw[cell_of_row _ _ _ _ _ _ iF,Nat.add_assoc];rw[List.getElem?_take]at hv;split at hv
  ·simpa using hv
  ·cases hv
end
section
variable {P : Program} {T : dJ} {e : Env} {h : ar} {dst : Option Nat} {K : List Wr -> Prop} {ty : TypeId} {pos : String} {after : Array Edge} {guard : Option (Nat × Bool)}
theorem B2(hT:aY P T){t:TypeId}{x:Operand}{K:V->Prop}(hk:zg T e h t x K) :
  ∃ v,K v /\ ∀ {σ:Type} (cx:Cx σ) (L:Loc) (F:Nat->Nat) (s:σ) (u:Value) (w:World) (hp:ar),cP h hp->ba cx L F hp s w->(∀ v,aD e x=some v->aR cx.yv L F w v u) ->
   ∃ b off y,u = .pointer (some ⟨b,off,none⟩)/\(loadVar t ⟨b,off,none⟩).run P w = .ok y w/\aR cx.yv L F w v y:=by
 unfold zg at hk;split at hk
 ·exact hk.elim
 rename_i v hv;split at hk
 ·rename_i cs ti hp ht
  obtain⟨r,hr,hc⟩:=tu hk;refine⟨r,hr,fun cx L F s u w CZ hs hg hu=>?_⟩;unfold placeOf at hp;split at hp<;>cases hp
  obtain⟨b,off,rfl,ya⟩:=hu _ hv;obtain⟨y,hy,hr⟩:=na (yv:=cx.yv) (L:=L) (F:=F) (w:=w) (b:=b) (off:=off) (o:=0) hT ht (fun i x hx=>by
   rw[List.drop_zero,Cells.a5,sC]at hx
   cases qP:cs[i]? with
   | none=>simp[qP]at hx
   | some c=>
    simp[qP]at hx;subst hx;exact(bW.get i ya qP).2) hc
  exact⟨b,off,y,rfl,hy,hr⟩
 ·rename_i id off ti hp ht
  have rd:∀ (cs:Cells),cs.oI ti off K->(∀ {yv:Option Nat} {L:Loc} {F:Nat->Nat} {w:World} {o:Obj},get h id=some o->bE yv L F w id o->bE yv L F w id (.box cs)) ->
    ∃ v,K v /\ ∀ {σ:Type} (cx:Cx σ) (L:Loc) (F:Nat->Nat) (s:σ) (u:Value) (w:World) (hp:ar),cP h hp->ba cx L F hp s w->(∀ v,aD e x=some v->aR cx.yv L F w v u) ->
   ∃ b off y,u = .pointer (some ⟨b,off,none⟩)/\(loadVar t ⟨b,off,none⟩).run P w = .ok y w/\aR cx.yv L F w v y:=by
   intro cs hk Gg;obtain⟨r,hr,hc⟩:=tu hk;refine⟨r,hr,fun cx L F s u w CZ hs hg hu=>?_⟩;unfold placeOf at hp;split at hp<;>cases hp
   have hu:u = .pointer (some ⟨L.ρ id,off,none⟩):=hu _ hv;have ho:∃ o,get h id=some o/\bE cx.yv L F w id o:=by
    cases vQ:get h id with
    | none=>exact absurd hk (by simp[vQ]at *)
    | some o=>exact⟨o,rfl,hg.obj id _ (hs _ _ vQ)⟩
   obtain⟨o,Om,Wq⟩:=ho;obtain⟨y,hy,hr⟩:=na (yv:=cx.yv) (L:=L) (F:=F) (w:=w) (b:=L.ρ id) (off:=off) (o:=off) hT ht (bE.D7 (Gg Om Wq) off) hc;exact⟨_,_,y,hu,hy,hr⟩
  split at hk;case h_3=>exact hk.elim
  ·rename_i cs Gg
   exact rd cs hk fun ho hr=>by rw[Gg]at ho;cases ho;exact hr
  ·rename_i tt l Gg
   exact rd (.vv l) hk fun ho hr=>by
    rw[Gg]at ho;cases ho;obtain⟨c,hc,hr⟩:=hr;exact⟨c,_,hc,hr⟩
 ·rename_i id sz i off ti hp ht
  split at hk;case h_2=>exact hk.elim
  rename_i n es mG;obtain⟨hn,hk⟩:=bw hk;have hn:=cT hn;obtain⟨c,J0,hk⟩:=yz hk;obtain⟨r,hr,hc⟩:=tu hk;refine⟨r,hr,fun cx L F s u w CZ hs hg hu=>?_⟩;unfold placeOf at hp;split at hp<;>cases hp
  have hu:u = .pointer (some ⟨L.ρ id,i*sz+off,none⟩):=hu _ hv;subst hn;obtain⟨y,hy,hr⟩:=na (yv:=cx.yv) (L:=L) (F:=F) (w:=w) (b:=L.ρ id) (off:=i*n+off) (o:=off) hT ht (bE.D1 (hg.obj id _ (hs _ _ mG)) J0 off) hc;exact⟨_,_,y,hu,hy,hr⟩
 ·exact hk.elim
theorem Fp(hT:aY P T){t:TypeId}{x:Operand}(hk:eS T e h dst (.load t x) K):∃ ws,K ws/\Out P e h ⟨dst,.load t x,ty,pos,after,guard⟩ ws:=by
 simp only[eS]at hk;obtain⟨v,hv,hl⟩:=B2 (P:=P) hT hk;refine⟨_,hv,a6 (o:=⟨dst,.load t x,ty,pos,after,guard⟩) fun cx r m L F st a w he hh hg=>?_⟩;obtain⟨b,off,y,hu,hy,hr⟩:=hl cx L F st.s (a.eval x) w st.heap hh hg.heap (fun v hv=>hg.aD (az he hv));exact⟨y,by simp[execOp,Instr.loadAt,hu,Instr.sureAddr,hy],hr⟩
theorem vB(hT:aY P T){t:TypeId}{i off:Nat}{fi:nQ}(h:pK T t i=some (off,fi)) :
  ∃ (fa:Array Field) (f:Field),P.underlying t=some (.struct fa)/\fa[i]?=some f/\f.offset=off/\T.get f.type=some fi:=by
 unfold pK at h;split at h;case h_2=>cases h
 rename_i ti eC;split at h;case h_2=>cases h
 rename_i fs hk;split at h;case h_2=>cases h
 rename_i WX ft hi;split at h;case h_2=>cases h
 rename_i Xb N6;cases h;obtain⟨ii,de,V4,fq,_,_,da,_⟩:=hT t ti eC;rw[hk]at da;obtain⟨fa,rfl,rfl,_⟩:=gh da.symm;rw[List.getElem?_map]at hi
 cases hf:fa.toList[i]? with
 | none=>rw[hf]at hi;cases hi
 | some f=>
  rw[hf]at hi;cases hi;exact⟨fa,f,fq,by simpa using hf,rfl,N6⟩
theorem v9{v:V}{p:Place}(hp:placeOf v=some p)(n:Nat){yv:Option Nat}{L:Loc}{F:Nat->Nat}{w:World}{u:Value}(hr:aR yv L F w v u) :
  ∃ b off,u = .pointer (some ⟨b,off,none⟩)/\aR yv L F w (p.add n) (.pointer (some ⟨b,off+n,none⟩)):=by
 unfold placeOf at hp;split at hp<;>cases hp
 ·obtain⟨b,off,rfl,ya⟩:=hr
  exact⟨b,off,rfl,b,off+n,rfl,bW.drop n ya⟩
 ·exact⟨_,_,hr,rfl⟩
 ·exact⟨_,_,hr,by show Value.pointer _=Value.pointer _;rw[Nat.add_assoc]⟩
theorem vc(hT:aY P T){t:TypeId}{x:Operand}{i:Nat}(hk:eS T e h dst (.fieldAddr t x i) K):∃ ws,K ws/\Out P e h ⟨dst,.fieldAddr t x i,ty,pos,after,guard⟩ ws:=by
 simp only[eS]at hk;split at hk;case h_2=>exact hk.elim
 rename_i v off fi hv hf;obtain⟨cM,hk⟩:=bw hk;have cM:=ua cM;split at hk;case h_2=>exact hk.elim
 rename_i p hp;obtain⟨fa,f,hu,N6,rfl,S3⟩:=vB hT hf;refine⟨_,hk,a6 (o:=⟨dst,.fieldAddr t x i,ty,pos,after,guard⟩) fun cx r m L F st a w he hh hg=>?_⟩;obtain⟨b,o',cF,hr⟩:=v9 hp f.offset (hg.aD (az he hv));exact⟨_,by simp[execOp,Instr.fieldAt,run_underlying hu,N6,cF,Instr.sureAddr,fieldPlace,dp hT S3,cM,dV],hr⟩
theorem wo(hT:aY P T){yv:Option Nat}{L:Loc}{F:Nat->Nat}{w:World}{t:TypeId}{ti:nQ}(ht:T.get t=some ti){cs:Array Value}{c:Cells}{off:Nat}(hx:ak yv L F w c.a5 cs.toList){v:V}
  (hv:(ti.isAgg=true/\off+ti.size<=c.a5.length/\v=c.sub off ti.size)\/(ti.isAgg=false/\c.a5[off]?=some v)) :
  ∃ y,(part t cs off).run P w = .ok y w/\aR yv L F w v y:=by
 rcases hv with⟨hA,hn,rfl⟩|⟨hA,hv⟩
 ·refine⟨.agg (cs.extract off (off+ti.size)),by simp[part,jk hT ht,hA,dp hT ht],aR.sub ?_⟩
  have:(cs.extract off (off+ti.size)).toList=(cs.toList.drop off).take ti.size:=by simp[List.extract_eq_take_drop]
  rw[this];exact(hx.drop off).take _
 ·obtain⟨y,hy,hr⟩:=ak.get off hx hv
  have lS:cs[off]?=some y:=by simpa using hy
  exact⟨y,by simp[part,jk hT ht,hA,lS],hr⟩
theorem Dh(hT:aY P T){t:TypeId}{x:Operand}{i:Nat}(hk:eS T e h dst (.field t x i) K):∃ ws,K ws/\Out P e h ⟨dst,.field t x i,ty,pos,after,guard⟩ ws:=by
 simp only[eS]at hk;have key:∀ (c:Cells) (off:Nat) (fi:nQ) (u:V),aD e x=some u->pK T t i=some (off,fi)->(∀ (yv:Option Nat) (L:Loc) (F:Nat->Nat) (w:World) (y:Value),aR yv L F w u y -> ∃ l:Array Value,y = .agg l/\ak yv L F w c.a5 l.toList) ->
   c.oI fi off (fun v=>K (aS dst v)) -> ∃ ws,K ws/\Out P e h ⟨dst,.field t x i,ty,pos,after,guard⟩ ws:=by
  intro c off fi u hu hf hr hk;obtain⟨v,hv,hc⟩:=tu hk;obtain⟨fa,f,se,N6,rfl,S3⟩:=vB hT hf;refine⟨_,hv,a6 (o:=⟨dst,.field t x i,ty,pos,after,guard⟩) fun cx r m L F st a w he hh hg=>?_⟩;obtain⟨l,hl,Tk⟩:=hr _ _ _ _ _ (hg.aD (az he hu));obtain⟨y,hy,hr⟩:=wo hT S3 Tk hc;exact⟨y,by simp[execOp,Instr.field,run_underlying se,N6,hl,asAgg,hy],hr⟩
 split at hk
 ·rename_i cs off fi hu hf
  exact key (.dd cs) off fi _ hu hf (fun yv L F w y hr=>by obtain⟨l,rfl,hl⟩:=hr;exact⟨l,rfl,ak.inj.2 hl⟩) hk
 ·rename_i cs off fi hu hf
  exact key (.vv cs) off fi _ hu hf (fun yv L F w y hr=>by obtain⟨l,rfl,hl⟩:=hr;exact⟨l,rfl,hl⟩) hk
 ·exact hk.elim
theorem GH{es:List (List D)}{i:Int}{K:List D->Prop}(h:vz es i K):∃ l,0<=i/\es[i.toNat]?=some l/\K l:=by
 unfold vz at h;split at h
 ·rename_i l h0 hl;exact⟨l,of_decide_eq_true h0,hl,h⟩
 ·exact h.elim
theorem dC(hT:aY P T){t:TypeId}{ti:nQ}(ht:T.get t=some ti):∃ d,P.underlying t=some d/\ti.kd=hO d:=by
 obtain⟨i,d,hi,hd,_,_,hk,_⟩:=hT t ti ht;exact⟨d,hd,hk⟩
theorem vd(hT:aY P T){t:TypeId}{x i:Operand}(hk:eS T e h dst (.indexAddr t x i) K):∃ ws,K ws/\Out P e h ⟨dst,.indexAddr t x i,ty,pos,after,guard⟩ ws:=by
 simp only[eS]at hk;split at hk;case h_2=>exact hk.elim
 rename_i ti v k n ht hv hi;obtain⟨d,hu,da⟩:=dC hT ht;split at hk
 ·rename_i el dv
  rw[dv]at da;have:=dL da.symm;subst this;split at hk;case h_2=>exact hk.elim
  rename_i ei ic;obtain⟨cM,hk⟩:=bw hk;have cM:=ua cM;split at hk
  ·rename_i es _
   obtain⟨l,pg,hl,hk⟩:=GH hk;obtain⟨G8,hk⟩:=bw hk;have G8:=cT G8;refine⟨_,hk,a6 (o:=⟨dst,.indexAddr t x i,ty,pos,after,guard⟩) fun cx r m L F st a w he hh hg=>?_⟩;have G4:=gB hg he hi;obtain⟨a0,len,cap,cF,hlen,jA,mG⟩:=hg.aD (az he hv);obtain⟨b,off,sz,rfl,C2,ya⟩:=mG (by rintro rfl;simp at hl);obtain⟨Wh,TE⟩:=cv.get n.toNat ya hl;have AF:sz=ei.size:=by omega
   have iZ:n.toNat<es.length:=(List.getElem?_eq_some_iff.1 hl).1;refine⟨.pointer (some ⟨b,off+n.toNat*ei.size,none⟩),?_,b,_,rfl,AF▸TE⟩;have h1:(n:Int)<(len:Int):=by rw[hlen];omega
   simp[execOp,Instr.indexAt,G4,asIntOf,run_underlying hu,cF,pg,h1,dp hT ic,dV]
  ·rename_i id sz off len _
   obtain⟨hn,hk⟩:=bw hk;simp only[Bool.and_eq_true,decide_eq_true_eq]at hn;obtain⟨AF,hk⟩:=bw hk;have AF:=cT AF;refine⟨_,hk,a6 (o:=⟨dst,.indexAddr t x i,ty,pos,after,guard⟩) fun cx r m L F st a w he hh hg=>?_⟩;have G4:=gB hg he hi;obtain⟨a0,cap,cF,jA,C2,hb⟩:=hg.aD (az he hv);rcases hb with⟨h0,_⟩|⟨rfl,hb⟩
   ·omega
   refine⟨.pointer (some ⟨L.ρ id,off*sz+n.toNat*ei.size,none⟩),?_,?_⟩
   ·simp[execOp,Instr.indexAt,G4,asIntOf,run_underlying hu,cF,hn.1,hn.2,dp hT ic,dV]
   ·show Value.pointer _=Value.pointer _
    rw[<- AF,Nat.add_zero,Nat.add_mul]
  ·exact hk.elim
 ·rename_i len el dv
  rw[dv]at da;have:=er da.symm;subst this;split at hk;case h_2=>exact hk.elim
  rename_i ei p ic hp;obtain⟨cM,hk⟩:=bw hk;have cM:=ua cM;obtain⟨hn,hk⟩:=bw hk;simp only[Bool.and_eq_true,decide_eq_true_eq]at hn;refine⟨_,hk,a6 (o:=⟨dst,.indexAddr t x i,ty,pos,after,guard⟩) fun cx r m L F st a w he hh hg=>?_⟩;have G4:=gB hg he hi;obtain⟨b,o',cF,hr⟩:=v9 hp (n.toNat*ei.size) (hg.aD (az he hv));exact⟨_,by simp[execOp,Instr.indexAt,G4,asIntOf,run_underlying hu,cF,Instr.sureAddr,hn.1,hn.2,dp hT ic,dV],hr⟩
 ·exact hk.elim
theorem Di(hT:aY P T){t:TypeId}{x i:Operand}(hk:eS T e h dst (.index t x i) K):∃ ws,K ws/\Out P e h ⟨dst,.index t x i,ty,pos,after,guard⟩ ws:=by
 simp only[eS]at hk;split at hk;case h_2=>exact hk.elim
 rename_i ti v k n ht hv hi;obtain⟨d,hu,da⟩:=dC hT ht;have key:∀ (c:Cells) (len:Nat) (el:TypeId) (ei:nQ),d = .array len el->T.get el=some ei->0<=n/\n<len ->
   (∀ (yv:Option Nat) (L:Loc) (F:Nat->Nat) (w:World) (y:Value),aR yv L F w v y -> ∃ l:Array Value,y = .agg l/\ak yv L F w c.a5 l.toList) ->
   c.oI ei (n.toNat*ei.size) (fun v=>K (aS dst v)) -> ∃ ws,K ws/\Out P e h ⟨dst,.index t x i,ty,pos,after,guard⟩ ws:=by
  intro c len el ei fq ic hn hr hk;subst fq;obtain⟨u,Hl,hc⟩:=tu hk;refine⟨_,Hl,a6 (o:=⟨dst,.index t x i,ty,pos,after,guard⟩) fun cx r m L F st a w he hh hg=>?_⟩;have G4:=gB hg he hi;obtain⟨l,hl,Tk⟩:=hr _ _ _ _ _ (hg.aD (az he hv));obtain⟨y,hy,hr⟩:=wo hT ic Tk hc;exact⟨y,by simp[execOp,Instr.index,G4,hl,asIntOf,run_underlying hu,hn.1,hn.2,dp hT ic,hy],hr⟩
 split at hk
 ·rename_i s dv
  rw[dv]at da;have:=gJ da.symm;subst this;obtain⟨hn,hk⟩:=bw hk;have hn:=of_decide_eq_true hn;obtain⟨b,hb,hk⟩:=lI hk;refine⟨_,hk,a6 (v:=.d (.int .u8 b.toNat)) (o:=⟨dst,.index t x i,ty,pos,after,guard⟩) fun cx r m L F st a w he hh hg=>?_⟩;have G4:=gB hg he hi;have WL:=jx hg he hv;have CX:n.toNat<s.data.toList.length:=(List.getElem?_eq_some_iff.1 hb).1;have dN:n.toNat<s.size:=by simpa using CX
  have ky:s[n.toNat]?=some b:=by
   rw[getElem?_pos s n.toNat dN];rw[List.getElem?_eq_getElem CX]at hb;cases hb;rfl
  exact⟨.int .u8 b.toNat,by simp[execOp,Instr.index,G4,WL,asIntOf,run_underlying hu,hn,ky],rfl⟩
 ·rename_i len el cs dv
  rw[dv]at da;split at hk;case h_2=>exact hk.elim
  rename_i ei ic;obtain⟨hn,hk⟩:=bw hk;simp only[Bool.and_eq_true,decide_eq_true_eq]at hn;exact key (.dd cs) len el ei (er da.symm) ic hn (fun yv L F w y hr=>by obtain⟨l,rfl,hl⟩:=hr;exact⟨l,rfl,ak.inj.2 hl⟩) hk
 ·rename_i len el cs dv
  rw[dv]at da;split at hk;case h_2=>exact hk.elim
  rename_i ei ic;obtain⟨hn,hk⟩:=bw hk;simp only[Bool.and_eq_true,decide_eq_true_eq]at hn;exact key (.vv cs) len el ei (er da.symm) ic hn (fun yv L F w y hr=>by obtain⟨l,rfl,hl⟩:=hr;exact⟨l,rfl,hl⟩) hk
 ·exact hk.elim
end
section
variable {yv : Option Nat} {L : Loc} {F : Nat -> Nat} {w : World}
theorem bq.one{a:D}{v:Value}(h:bq F w a v)(hs:a.scalar=true):v.oneCell'=true:=by
 cases a<;>simp[D.scalar]at hs<;>simp only[bq]at h
 case bool=>subst h;rfl
 case int=>subst h;rfl
 case str=>subst h;rfl
 case vs=>obtain⟨a,len,cap,rfl,_⟩:=h;rfl
 case nils=>subst h;rfl
 case ref=>obtain⟨b,off,rfl,_⟩:=h;rfl
 case nilp=>subst h;rfl
 case mv=>obtain⟨r,en,c,rfl,_⟩:=h;rfl
 case nilm=>subst h;rfl
 case clo=>obtain⟨l,rfl,_⟩:=h;rfl
 case mth=>obtain⟨l,rfl,_⟩:=h;rfl
 case nilf=>subst h;rfl
 case ifc=>obtain⟨y,rfl,_⟩:=h;rfl
 case nili=>subst h;rfl
theorem aR.one{a:V}{v:Value}(h:aR yv L F w a v)(hs:a.scalar=true):v.oneCell'=true:=by
 cases a<;>simp[V.scalar]at hs<;>simp only[aR]at h
 case d=>exact bq.one h hs
 case ptr=>subst h;rfl
 case ep=>subst h;rfl
 case sl=>obtain⟨a,cap,rfl,_⟩:=h;rfl
 case mp=>subst h;rfl
 case it=>subst h;rfl
 case clo=>obtain⟨l,rfl,_⟩:=h;rfl
 case yld=>obtain⟨l,_,rfl⟩:=h;rfl
 case unk=>exact h
theorem Da{v:Value}(h:v.oneCell'=true):v.cells.toList = [v]:=by
 cases v<;>simp_all[Value.oneCell',Value.cells]
theorem aR.cells{a:V}{v:Value}(h:aR yv L F w a v)(hs:a.cells.ok=true):ak yv L F w a.cells.a5 v.cells.toList:=by
 have key:a.scalar=true->a.cells.a5 = [a]->ak yv L F w a.cells.a5 v.cells.toList:=fun h1 h2=>by
  rw[h2,Da (h.one h1)];exact⟨v,[],rfl,h,rfl⟩
 cases a with
 | d x=>
  cases x with
  | agg cs=>
   obtain⟨l,rfl,hl⟩:=h;exact ak.inj.2 hl
  | tup cs=>simp[V.cells,Cells.ok,fJ,D.scalar]at hs
  | _=>exact key rfl rfl
 | agg cs=>
  obtain⟨l,rfl,hl⟩:=h;exact hl
 | tup cs=>simp[V.cells,Cells.ok,bU,V.scalar]at hs
 | _=>exact key rfl rfl
theorem kp:∀ (l:List D),bU (inj l)=fJ l
 | []=>rfl
 | c::r=>by simp[inj,bU,fJ,V.scalar,kp r]
theorem Cells.ok_eq(c:Cells):c.ok=bU c.a5:=by
 cases c
 ·exact(kp _).symm
 ·rfl
theorem nR:∀ {l:List V},bU l=true -> ∀ v∈l,v.scalar=true
 | [],_,v,hv=>by cases hv
 | x::r,h,v,hv=>by
  simp only[bU,Bool.and_eq_true]at h;rcases List.mem_cons.1 hv with rfl|hv
  ·exact h.1
  ·exact nR h.2 v hv
theorem ak.one{cs:List V}{l:List Value}(h:ak yv L F w cs l)(hs:bU cs=true):∀ v∈l,v.oneCell'=true:=by
 intro v hv;obtain⟨i,hi,rfl⟩:=List.getElem_of_mem hv;have hlen:=h.length;have hc:cs[i]?=some cs[i]:=List.getElem?_eq_getElem (by omega);obtain⟨y,hy,hr⟩:=h.get i hc;rw[List.getElem?_eq_getElem hi]at hy;cases hy;exact hr.one (nR hs _ (List.getElem_mem _))
theorem g5{v:Value}{z:List D}(h:zeroCells v=some z):aN F w z v.cells.toList:=by
 unfold zeroCells at h;have sc:∀ {d:D},jK v=some d->v.cells.toList = [v]/\bq F w d v:=by
  intro d hd;refine⟨?_,ko hd⟩;unfold jK at hd;split at hd<;>first|(cases hd;done)|rfl
 split at h
 ·rename_i l hl
  cases h;unfold ofConst at hl;split at hl
  ·rename_i cs
   cases hs:gp cs.toList with
   | none=>rw[hs]at hl;cases hl
   | some l'=>rw[hs]at hl;cases hl;exact iG hs
  ·rename_i cs
   split at hl
   ·cases hl
   ·cases hl
  ·unfold jK at hl
   split at hl<;>cases hl
 ·cases h
 ·rename_i d h1 h2 hd
  cases h;unfold ofConst at hd;split at hd
  ·rename_i cs
   cases hs:gp cs.toList with
   | none=>rw[hs]at hd;cases hd
   | some l'=>rw[hs]at hd;cases hd;exact absurd rfl (h1 _)
  ·rename_i cs
   split at hd
   ·cases hd;exact absurd rfl (h2 _)
   ·cases hd
  ·obtain⟨e1,e2⟩:=sc hd
   rw[e1];exact⟨v,[],rfl,e2,rfl⟩
 ·cases h
end
section
variable {P : Program} {T : dJ} {e : Env} {h : ar} {dst : Option Nat} {K : List Wr -> Prop} {ty : TypeId} {pos : String} {after : Array Edge} {guard : Option (Nat × Bool)}
theorem HH{fn:Fn}{first aM:Array Operand}(hk:KR e dst fn first.toList aM.toList K):∃ ws,K ws/\Out P e h ⟨dst,.makeFunc fn first aM,ty,pos,after,guard⟩ ws:=by
 generalize hf:first.toList=fl at hk
 generalize hc:aM.toList=cl at hk;unfold KR at hk;split at hk;case h_2=>exact hk.elim
 rename_i f x r;split at hk;case h_2=>exact hk.elim
 rename_i l hl;split at hk;case h_2=>exact hk.elim
 rename_i ds hd;have VN:aM = #[]:=by simpa using hc
 subst VN;refine⟨_,hk,a6 (v:=.d (.mth f ds)) (o:=⟨dst,.makeFunc (.func f) first #[],ty,pos,after,guard⟩) fun cx r m L F st a w he hh hg=>⟨.func (.func f) (first.map a.eval) #[],by simp[execOp,Instr.makeFunc],_,rfl,?_⟩⟩;have:=hg.cI (jj he hl);rw[iV hd,<- hf]at this;simpa using ak.inj.1 this
theorem xI{fn:Fn}{first aM:Array Operand}(hk:eS T e h dst (.makeFunc fn first aM) K):∃ ws,K ws/\Out P e h ⟨dst,.makeFunc fn first aM,ty,pos,after,guard⟩ ws:=by
 simp only[eS]at hk;split at hk;case h_2=>exact HH hk
 rename_i f l hf hl;have VY:first = #[]:=by simpa using hf
 subst VY;have run:∀ (a:Act) (w:World),(execOp a.eval ⟨dst,.makeFunc (.func f) #[] aM,ty,pos,after,guard⟩).run P w = .ok (.value (.func (.func f) #[] (aM.map a.eval))) w:=fun a w=>by
  simp[execOp,Instr.makeFunc]
 split at hk
 ·rename_i ds hd
  refine⟨_,hk,a6 (v:=.d (.clo f ds)) (o:=⟨dst,.makeFunc (.func f) #[] aM,ty,pos,after,guard⟩) fun cx r m L F st a w he hh hg=>⟨_,run a w,_,rfl,?_⟩⟩;have:=hg.cI (jj he hl);rw[iV hd]at this;simpa using ak.inj.1 this
 ·refine⟨_,hk,a6 (v:=.clo f l) (o:=⟨dst,.makeFunc (.func f) #[] aM,ty,pos,after,guard⟩) fun cx r m L F st a w he hh hg=>⟨_,run a w,_,rfl,?_⟩⟩
  simpa using hg.cI (jj he hl)
theorem qs{n:Nat}{lo hi:Option V}{K:Nat->Nat->Prop}(hk:rh n lo hi K) :
  ∃ l u,K l u/\l<=u/\u<=n /\ ∀ (cap:Nat) (OK:Bool) (lv hv:Option Value) (w:World),n<=cap ->
   (∀ v,lo=some v -> ∃ x,lv=some x /\ ∀ k i,v = .d (.int k i)->x = .int k i)->(lo=none->lv=none)->(∀ v,hi=some v -> ∃ x,hv=some x /\ ∀ k i,v = .d (.int k i)->x = .int k i)->(hi=none->hv=none) ->
   (Instr.sliceBounds OK n cap lv hv none).run P w = .ok (l,u,cap) w:=by
 unfold rh at hk;split at hk
 ·split at hk
  ·refine⟨_,_,hk,Nat.zero_le _,Nat.le_refl _,fun cap OK lv hv w hc h1 h2 h3 h4=>?_⟩
   rw[h2 rfl,h4 rfl];simp[Instr.sliceBounds]
  ·rename_i k i
   obtain⟨hb,hk⟩:=bw hk;simp only[Bool.and_eq_true,decide_eq_true_eq]at hb;refine⟨_,_,hk,by omega,Nat.le_refl _,fun cap OK lv hv w hc h1 h2 h3 h4=>?_⟩;obtain⟨x,rfl,hx⟩:=h1 _ rfl;rw[h4 rfl,hx _ _ rfl];simp[Instr.sliceBounds,Instr.sliceBound,asIntOf,hb.1,hb.2]
  ·exact hk.elim
 ·rename_i k i
  obtain⟨hb,hk⟩:=bw hk;simp only[Bool.and_eq_true,decide_eq_true_eq]at hb;split at hk
  ·refine⟨_,_,hk,Nat.zero_le _,by omega,fun cap OK lv hv w hc h1 h2 h3 h4=>?_⟩
   obtain⟨x,rfl,hx⟩:=h3 _ rfl;rw[h2 rfl,hx _ _ rfl];have S8:i<=(cap:Int):=by omega
   simp[Instr.sliceBounds,Instr.sliceBound,asIntOf,hb.1,S8]
  ·rename_i k' j _
   obtain⟨ky,hk⟩:=bw hk;simp only[Bool.and_eq_true,decide_eq_true_eq]at ky;refine⟨_,_,hk,by omega,by omega,fun cap OK lv hv w hc h1 h2 h3 h4=>?_⟩;obtain⟨x,rfl,hx⟩:=h3 _ rfl;obtain⟨y,rfl,hy⟩:=h1 _ rfl;rw[hx _ _ rfl,hy _ _ rfl];have S8:i<=(cap:Int):=by omega
   have h2:j<=max i 0:=by omega
   simp[Instr.sliceBounds,Instr.sliceBound,asIntOf,hb.1,S8,ky.1,h2]
  ·exact hk.elim
 ·exact hk.elim
theorem B7{σ:Type}{cx:Cx σ}{r:Option Nat}{m:List Nat}{L:Loc}{F:Nat->Nat}{st:St σ}{a:Act}{w:World}(hg:Good cx r m L F st a w)(he:cP e st.env){x:Option Operand}{v:Option V}
  (hx:zp e x=some v):(∀ u,v=some u -> ∃ y,x.map a.eval=some y/\aR cx.yv L F w u y)/\(v=none->x.map a.eval=none):=by
 cases x with
 | none=>simp only[zp,Option.some.injEq]at hx;subst hx;exact⟨(fun u hu=>by cases hu),fun _=>rfl⟩
 | some x=>
  simp only[zp]at hx;split at hx
  ·rename_i u hu
   cases hx;exact⟨fun u' Lx=>by cases Lx;exact⟨_,rfl,hg.aD (az he hu)⟩,fun h=>by cases h⟩
  ·cases hx
theorem Dk(hT:aY P T){t:TypeId}{x:Operand}{lo hi mx:Option Operand}(hk:eS T e h dst (.slice t x lo hi mx) K):∃ ws,K ws/\Out P e h ⟨dst,.slice t x lo hi mx,ty,pos,after,guard⟩ ws:=by
 simp only[eS]at hk;split at hk
 ·exact hk.elim
 split at hk;case h_2=>exact hk.elim
 rename_i ti v l u ht hv hl hu;obtain⟨d,se,da⟩:=dC hT ht;have GA:∀ {σ:Type} {cx:Cx σ} {r:Option Nat} {m:List Nat} {L:Loc} {F:Nat->Nat} {st:St σ} {a:Act} {w:World},Good cx r m L F st a w->cP e st.env ->
   (∀ v,l=some v -> ∃ x,lo.map a.eval=some x /\ ∀ k i,v = .d (.int k i)->x = .int k i)/\(l=none->lo.map a.eval=none)/\(∀ v,u=some v -> ∃ x,hi.map a.eval=some x /\ ∀ k i,v = .d (.int k i)->x = .int k i)/\(u=none->hi.map a.eval=none):=by
  intro σ cx r m L F st a w hg he;obtain⟨h1,h2⟩:=B7 hg he hl;obtain⟨h3,h4⟩:=B7 hg he hu;refine⟨fun v hv=>?_,h2,fun v hv=>?_,h4⟩
  ·obtain⟨y,hy,hr⟩:=h1 v hv
   exact⟨y,hy,fun k i e=>by subst e;exact hr⟩
  ·obtain⟨y,hy,hr⟩:=h3 v hv
   exact⟨y,hy,fun k i e=>by subst e;exact hr⟩
 split at hk
 ·rename_i el es dv
  rw[dv]at da;have:=dL da.symm;subst this;obtain⟨p,q,hk,IU,TA,bp⟩:=qs (P:=P) hk;obtain⟨cM,hk⟩:=bw hk;refine⟨_,hk,a6 (v:=.d (.vs ((es.take q).drop p))) (o:=⟨dst,.slice t x lo hi none,ty,pos,after,guard⟩) fun cx r m L F st a w he hh hg=>?_⟩;obtain⟨a0,len,cap,cF,hlen,jA,mG⟩:=hg.aD (az he hv);obtain⟨b1,b2,b3,b4⟩:=GA hg he;have hr:=bp cap true _ _ w (by omega) b1 b2 b3 b4;rw[<- hlen]at hr;unfold Ei at cM;split at cM;case h_2=>cases cM
  rename_i ei ic;refine⟨.slice (if cap=p then a0 else a0.map (·.add (p*ei.size))) (q-p) (cap-p),?_,_,_,_,rfl,by simp;omega,by omega,fun eX=>?_⟩
  ·simp[execOp,Instr.sliceAt,run_underlying se,Instr.slice,cF,hr,dp hT ic]
  have Ol:es ≠ []:=by rintro rfl;simp at eX
  obtain⟨b,off,sz,rfl,C2,ya⟩:=mG Ol;have TK:sz=ei.size:=by
   cases es with
   | nil=>exact absurd rfl Ol
   | cons f g=>exact ya.1.symm.trans (cT cM)
  have qA:p<q:=by
   rcases Nat.lt_or_ge p q with h1|h1
   ·exact h1
   ·exact absurd (List.drop_eq_nil_of_le (by simp;omega)) eX
  have:¬ cap=p:=by omega
  refine⟨b,off+p*sz,sz,?_,C2,cv.drop p (cv.take q ya)⟩;rw[if_neg this,<- TK];simp[dV]
 ·rename_i el id sz off len dv
  rw[dv]at da;have:=dL da.symm;subst this;obtain⟨p,q,hk,IU,TA,bp⟩:=qs (P:=P) hk;obtain⟨cM,hk⟩:=bw hk;refine⟨_,hk,a6 (v:=.sl id sz (off+p) (q-p)) (o:=⟨dst,.slice t x lo hi none,ty,pos,after,guard⟩) fun cx r m L F st a w he hh hg=>?_⟩;obtain⟨a0,cap,cF,jA,C2,hb⟩:=hg.aD (az he hv);obtain⟨b1,b2,b3,b4⟩:=GA hg he;have hr:=bp cap true _ _ w (by omega) b1 b2 b3 b4;split at cM;case h_2=>cases cM
  rename_i ei ic;have cM:=cT cM;refine⟨.slice (if cap=p then a0 else a0.map (·.add (p*ei.size))) (q-p) (cap-p),?_,_,_,rfl,by omega,C2,?_⟩
  ·simp[execOp,Instr.sliceAt,run_underlying se,Instr.slice,cF,hr,dp hT ic]
  rcases hb with⟨h0,h1⟩|⟨rfl,hb⟩
  ·exact .inl (by omega)
  ·by_cases VP:cap=p
   ·exact .inl (by omega)
   ·right
    rw[if_neg VP,<- cM];refine⟨by simp[dV,Nat.add_mul],?_⟩;have:off+p+(cap-p)=off+cap:=by omega
    rw[this];exact hb
 ·rename_i el dv
  rw[dv]at da;have:=dL da.symm;subst this;obtain⟨p,q,hk,IU,TA,bp⟩:=qs (P:=P) hk;obtain⟨cM,hk⟩:=bw hk;refine⟨_,hk,a6 (v:=.d .nils) (o:=⟨dst,.slice t x lo hi none,ty,pos,after,guard⟩) fun cx r m L F st a w he hh hg=>?_⟩;have cF:a.eval x = .slice none 0 0:=hg.aD (az he hv);obtain⟨b1,b2,b3,b4⟩:=GA hg he;have hr:=bp 0 true _ _ w (by omega) b1 b2 b3 b4;have xz:p=0:=by omega
  have Tz:q=0:=by omega
  subst xz Tz;obtain⟨ii,dd,V4,tC,_⟩:=hT t ti ht;refine⟨.slice none 0 0,?_,rfl⟩;have cM:∃ n,(sizeOf el).run P w = .ok n w:=by
   split at cM
   ·rename_i ei ic;exact⟨_,dp hT ic⟩
   ·cases cM
  obtain⟨n,hn⟩:=cM;simp[execOp,Instr.sliceAt,run_underlying se,Instr.slice,cF,hr,hn]
 ·rename_i s dv
  rw[dv]at da;have:=gJ da.symm;subst this;obtain⟨p,q,hk,IU,TA,bp⟩:=qs (P:=P) hk;refine⟨_,hk,a6 (v:=.d (.str (s.extract p q))) (o:=⟨dst,.slice t x lo hi none,ty,pos,after,guard⟩) fun cx r m L F st a w he hh hg=>?_⟩;have cF:=jx hg he hv;obtain⟨b1,b2,b3,b4⟩:=GA hg he;have hr:=bp s.size false _ _ w (Nat.le_refl _) b1 b2 b3 b4;exact⟨.string (s.extract p q),by simp[execOp,Instr.sliceAt,run_underlying se,Instr.slice,cF,hr],rfl⟩
 ·exact hk.elim
end
mutual
theorem Hx{i:Nat}:∀ {v:V},tZ i v=false->¬ fx v i
 | .d _,_=>fun h=>h
 | .agg cs,h=>lb (l:=cs) h
 | .tup cs,h=>lb (l:=cs) h
 | .clo _ cs,h=>lb (l:=cs) h
 | .ptr j _,h=>fun e=>by have e:j=i:=e;subst e;simp[tZ]at h
 | .ep j _ _ _,h=>fun e=>by have e:j=i:=e;subst e;simp[tZ]at h
 | .sl j _ _ _,h=>fun e=>by have e:j=i:=e;subst e;simp[tZ]at h
 | .mp j,h=>fun e=>by have e:j=i:=e;subst e;simp[tZ]at h
 | .it j,h=>fun e=>by have e:j=i:=e;subst e;simp[tZ]at h
 | .yld,_=>fun h=>h
 | .unk,_=>fun h=>h
theorem lb{i:Nat}:∀ {l:List V},mV i l=false->¬ bt l i
 | [],_=>fun h=>h
 | v::r,h=>by
  simp only[mV,Bool.or_eq_false_iff]at h;exact fun e=>e.elim (Hx h.1) (lb h.2)
end
theorem dB(l:List (List D)):(cw l).flatten=inj l.flatten:=by
 induction l with
 | nil=>rfl
 | cons x r ih=>simp[cw,ih,lU]
theorem Am{i:Nat}{c:Cells}(h:c.free i=true):¬ bt c.a5 i:=by
 cases c with
 | dd l=>exact dF l i
 | vv l=>exact lb (by simpa[Cells.free,Cells.a5]using h)
theorem mN{i:Nat}{c:aI}(h:c.free i=true):¬ bt c.a5.flatten i:=by
 cases c with
 | dd l=>show ¬ bt (cw l).flatten i;rw[dB];exact dF _ i
 | vv l=>exact lb (by simpa[aI.free,aI.a5]using h)
section
variable {P : Program} {T : dJ} {e : Env} {h : ar} {dst : Option Nat} {K : List Wr -> Prop} {ty : TypeId} {pos : String} {after : Array Edge} {guard : Option (Nat × Bool)}
theorem zH{F:Nat->Nat}{w:World}{yv:Option Nat}{L:Loc}:∀ {r:List V} {k:IntKind} {x:Int} {v:D} {l:List Value},C8 k x r=some v->ak yv L F w r l ->
  ∃ y,(l.foldlM Builtin.min2 (.int k x)).run P w = .ok y w/\bq F w v y
 | [],k,x,v,l,h,hl=>by
  simp only[C8,Option.some.injEq]at h;subst h;have:l = []:=hl;subst this;exact⟨.int k x,by simp,rfl⟩
 | c::r,k,x,v,l,h,hl=>by
  obtain⟨y,l',rfl,hc,iF⟩:=hl
  cases c with
  | d c=>
   cases c<;>simp only[C8]at h<;>first|(cases h;done)|skip
   rename_i k' b;have hc:y = .int k' b:=hc;subst hc;obtain⟨z,hz,KC⟩:=zH h iF;refine⟨z,?_,KC⟩;have:(if b<x then b else x)=min x b:=by simp only[Int.min_def];split<;>split<;>omega
   simp[Builtin.min2,this,hz]
  | _=>simp[C8]at h
theorem zG{F:Nat->Nat}{w:World}{yv:Option Nat}{L:Loc}:∀ {r:List V} {k:IntKind} {x:Int} {v:D} {l:List Value},C7 k x r=some v->ak yv L F w r l ->
  ∃ y,(l.foldlM Builtin.max2 (.int k x)).run P w = .ok y w/\bq F w v y
 | [],k,x,v,l,h,hl=>by
  simp only[C7,Option.some.injEq]at h;subst h;have:l = []:=hl;subst this;exact⟨.int k x,by simp,rfl⟩
 | c::r,k,x,v,l,h,hl=>by
  obtain⟨y,l',rfl,hc,iF⟩:=hl
  cases c with
  | d c=>
   cases c<;>simp only[C7]at h<;>first|(cases h;done)|skip
   rename_i k' b;have hc:y = .int k' b:=hc;subst hc;obtain⟨z,hz,KC⟩:=zG h iF;refine⟨z,?_,KC⟩;have:(if x<b then b else x)=max x b:=by simp only[Int.max_def];split<;>split<;>omega
   simp[Builtin.max2,this,hz]
  | _=>simp[C7]at h
theorem HF{args:Array Operand}{tys:Array TypeId}(hk:dy T e h dst .min args tys K):∃ ws,K ws/\Out P e h ⟨dst,.call ⟨.builtin .min,args,tys⟩,ty,pos,after,guard⟩ ws:=by
 simp only[dy]at hk;split at hk;case h_2=>exact hk.elim
 rename_i k x r hr;split at hk;case h_2=>exact hk.elim
 rename_i v hm;refine⟨_,hk,a6 (v:=.d v) (o:=⟨dst,.call ⟨.builtin .min,args,tys⟩,ty,pos,after,guard⟩) fun cx r' m L F st a w he hh hg=>?_⟩;obtain⟨y,l',cF,hy,iF⟩:=hg.cI (jj he hr);have hy:y = .int k x:=hy;subst hy;obtain⟨z,hz,KC⟩:=zH (P:=P) hm iF;have J3:(args.map a.eval).toList = .int k x::l':=by simpa using cF
 have ER:(Builtin.min_ tys ty (args.map a.eval)).run P w = .ok z w:=by
  simp only[Builtin.min_,J3];exact hz
 exact⟨z,by simp[execOp,resolve,invoke,builtin,ER],KC⟩
theorem HE{args:Array Operand}{tys:Array TypeId}(hk:dy T e h dst .max args tys K):∃ ws,K ws/\Out P e h ⟨dst,.call ⟨.builtin .max,args,tys⟩,ty,pos,after,guard⟩ ws:=by
 simp only[dy]at hk;split at hk;case h_2=>exact hk.elim
 rename_i k x r hr;split at hk;case h_2=>exact hk.elim
 rename_i v hm;refine⟨_,hk,a6 (v:=.d v) (o:=⟨dst,.call ⟨.builtin .max,args,tys⟩,ty,pos,after,guard⟩) fun cx r' m L F st a w he hh hg=>?_⟩;obtain⟨y,l',cF,hy,iF⟩:=hg.cI (jj he hr);have hy:y = .int k x:=hy;subst hy;obtain⟨z,hz,KC⟩:=zG (P:=P) hm iF;have J3:(args.map a.eval).toList = .int k x::l':=by simpa using cF
 have ER:(Builtin.max_ tys ty (args.map a.eval)).run P w = .ok z w:=by
  simp only[Builtin.max_,J3];exact hz
 exact⟨z,by simp[execOp,resolve,invoke,builtin,ER],KC⟩
theorem bs.at{F:Nat->Nat}{w:World}:∀ {bT:List (D×D)} {es:List MapEntry} {i:Nat} {e:MapEntry},bs F w bT es->es[i]?=some e -> ∃ k u,bT[i]?=some (k,u)/\bq F w k e.key/\bq F w u e.val
 | [],es,i,e,hr,h=>by
  have:es = []:=hr;subst this;simp at h
 | (k,u)::r,es,0,e,hr,h=>by
  obtain⟨x,l,rfl,h1,h2,_⟩:=hr;simp at h;subst h;exact⟨k,u,rfl,h1,h2⟩
 | (k,u)::r,es,i+1,e,hr,h=>by
  obtain⟨x,l,rfl,_,_,h3⟩:=hr;simpa using bs.at h3 (by simpa using h)
theorem bs.get{F:Nat->Nat}{w:World}:∀ {bT:List (D×D)} {es:List MapEntry},bs F w bT es->es.length=bT.length
 | [],es,h=>by rw[show es = [] from h];rfl
 | (k,v)::r,es,h=>by
  obtain⟨en,es',rfl,_,_,hr⟩:=h;simp[bs.get hr]
theorem HD(hT:aY P T){args:Array Operand}{tys:Array TypeId}(hk:dy T e h dst .len args tys K):∃ ws,K ws/\Out P e h ⟨dst,.call ⟨.builtin .len,args,tys⟩,ty,pos,after,guard⟩ ws:=by
 simp only[dy]at hk;split at hk;case h_2=>exact hk.elim
 rename_i x t rest ct y6;split at hk;case h_2=>exact hk.elim
 rename_i ti v ht hv;obtain⟨d,se,da⟩:=dC hT ht;have h0:∀ (a:Act),(args.map a.eval)[0]?=some (a.eval x):=by
  intro a;have:args[0]?=some x:=by
   have:args.toList[0]?=some x:=by rw[ct];rfl
   simpa using this
  simp[this]
 have OC:tys[0]?=some t:=by
  have:tys.toList[0]?=some t:=by rw[y6];rfl
  simpa using this
 have bp:∀ (a:Act) (w:World) v,(Builtin.len_ tys ty (args.map a.eval)).run P w = .ok v w->(execOp a.eval ⟨dst,.call ⟨.builtin .len,args,tys⟩,ty,pos,after,guard⟩).run P w = .ok (.value v) w:=fun a w v hv=>by
  simp[execOp,resolve,invoke,builtin,hv]
 have sl:∀ (n:Nat) (el:TypeId),d = .slice el->(∀ (yv:Option Nat) (L:Loc) (F:Nat->Nat) (w:World) (y:Value),aR yv L F w v y -> ∃ b c,y = .slice b n c)->K (aS dst (.d (.int .i64 n))) ->
   ∃ ws,K ws/\Out P e h ⟨dst,.call ⟨.builtin .len,args,tys⟩,ty,pos,after,guard⟩ ws:=by
  intro n el hd hr hk;subst hd;refine⟨_,hk,a6 (v:=.d (.int .i64 n)) (o:=⟨dst,.call ⟨.builtin .len,args,tys⟩,ty,pos,after,guard⟩) fun cx r' m L F st a w he hh hg=>?_⟩;obtain⟨b,c,cF⟩:=hr _ _ _ _ _ (hg.aD (az he hv));exact⟨.int .i64 n,bp a w _ (by simp[Builtin.len_,OC,h0,run_underlying se,cF,goInt]),rfl⟩
 split at hk
 ·rename_i el es dv
  rw[dv]at da;exact sl es.length el (dL da.symm) (fun yv L F w y hr=>by obtain⟨b,n,c,rfl,rfl,_⟩:=hr;exact⟨b,c,rfl⟩) hk
 ·rename_i el dv
  rw[dv]at da;exact sl 0 el (dL da.symm) (fun yv L F w y hr=>by have hr:y = .slice none 0 0:=hr;exact⟨none,0,hr⟩) hk
 ·rename_i el id sz off n dv
  rw[dv]at da;exact sl n el (dL da.symm) (fun yv L F w y hr=>by obtain⟨b,c,rfl,_⟩:=hr;exact⟨b,c,rfl⟩) hk
 ·rename_i s dv
  rw[dv]at da;have:=gJ da.symm;subst this;refine⟨_,hk,a6 (v:=.d (.int .i64 s.size)) (o:=⟨dst,.call ⟨.builtin .len,args,tys⟩,ty,pos,after,guard⟩) fun cx r' m L F st a w he hh hg=>?_⟩;have cF:=jx hg he hv;exact⟨.int .i64 s.size,bp a w _ (by simp[Builtin.len_,OC,h0,run_underlying se,cF,goInt]),rfl⟩
 ·rename_i n el dv
  rw[dv]at da;have:=er da.symm;subst this;refine⟨_,hk,a6 (v:=.d (.int .i64 n)) (o:=⟨dst,.call ⟨.builtin .len,args,tys⟩,ty,pos,after,guard⟩) fun cx r' m L F st a w he hh hg=>?_⟩;exact⟨.int .i64 n,bp a w _ (by simp[Builtin.len_,OC,h0,run_underlying se,goInt]),rfl⟩
 ·rename_i mk me id dv
  rw[dv]at da;have:=pZ da.symm;subst this;split at hk;case h_2=>exact hk.elim
  rename_i bT eb;refine⟨_,hk,a6 (v:=.d (.int .i64 bT.length)) (o:=⟨dst,.call ⟨.builtin .len,args,tys⟩,ty,pos,after,guard⟩) fun cx r' m L F st a w he hh hg=>?_⟩;have cF:a.eval x = .map (some (L.ρ id)):=hg.aD (az he hv);obtain⟨en,c,hb,hr,_⟩:=hg.heap.obj id _ (hh _ _ eb);have hl:en.size=bT.length:=by simpa using bs.get hr
  exact⟨.int .i64 bT.length,bp a w _ (by simp[Builtin.len_,OC,h0,run_underlying se,cF,getObj,Sem.run,hb,goInt,hl]),rfl⟩
 ·rename_i mk me bT dv
  rw[dv]at da;have:=pZ da.symm;subst this;refine⟨_,hk,a6 (v:=.d (.int .i64 bT.length)) (o:=⟨dst,.call ⟨.builtin .len,args,tys⟩,ty,pos,after,guard⟩) fun cx r' m L F st a w he hh hg=>?_⟩;obtain⟨b,en,c,cF,_,hb,hr⟩:=hg.aD (az he hv);have hl:en.size=bT.length:=by simpa using bs.get hr
  exact⟨.int .i64 bT.length,bp a w _ (by simp[Builtin.len_,OC,h0,run_underlying se,cF,getObj,Sem.run,hb,goInt,hl]),rfl⟩
 ·exact hk.elim
theorem ak.jJ{yv:Option Nat}{L L':Loc}{F:Nat->Nat}{w w':World}(tr:Tr F w F w'){id:Nat}(hL:∀ i,i≠id->L'.ρ i=L.ρ i/\L'.κ i=L.κ i){cs:List V}{l:List Value}(hf:¬ bt cs id)(h:ak yv L F w cs l):ak yv L' F w' cs l:=
 ak.mono tr cs l (fun i hi=>hL i (by rintro rfl;exact hf hi)) h
theorem uk{op:Op}{d:Nat}{c:Cells}(hf:¬ bt c.a5 d)
  (hr:∀ {σ:Type} (cx:Cx σ) (r:Option Nat) (m:List Nat) (L:Loc) (F:Nat->Nat) (st:St σ) (a:Act) (w:World),cP e st.env->cP h st.heap->Good cx r m L F st a w ->
   ∃ (l:Array Value) (t:TypeId),(execOp a.eval ⟨some d,op,ty,pos,after,guard⟩).run P w = .ok (.value (.pointer (some ⟨w.heap.size,0,none⟩))) (w.alloc (.cells l t))/\ak cx.yv L F w c.a5 l.toList) :
  Out P e h ⟨some d,op,ty,pos,after,guard⟩ [.new d (.box c),.set d (.ptr d 0)]:=by
 intro σ cx r m L F st a w he hh hg hd;obtain⟨l,t,bp,hl⟩:=hr cx r m L F st a w he hh hg;have tr:Tr F w F (w.alloc (.cells l t)):=Tr.alloc hg.heap.fresh _;have pV:=hg.new d 0 (.box c) (.cells l t) (hg.dH (hd d rfl)) ⟨l,t,(by show(w.alloc _).heap[if d=d then w.heap.size else L.ρ d]?=_;rw[if_pos rfl];exact heap_alloc_new w _),ak.jJ tr (fun i hi=>by simp[hi]) hf hl⟩;exact⟨_,_,_,bp,.inl rfl,_,F,pV.set (v:=.ptr d 0) (hd d rfl) (by show Value.pointer _=Value.pointer _;simp),tr⟩
theorem Dd(hT:aY P T){t:TypeId}(hk:eS T e h dst (.alloc t) K):∃ ws,K ws/\Out P e h ⟨dst,.alloc t,ty,pos,after,guard⟩ ws:=by
 simp only[eS]at hk;split at hk;case h_2=>exact hk.elim
 rename_i ti d ht;split at hk;case h_3=>exact hk.elim
 ·rename_i hz
  obtain⟨hlen,hk⟩:=bw hk;obtain⟨i,de,hi,fq,_,_,_,_,_,AG⟩:=hT t ti ht;obtain⟨zv,C5,u6,_⟩:=AG _ hz;refine⟨_,hk,?_⟩;intro σ cx r m L F st a w he hh hg hd;have tr:Tr F w F (w.alloc (.cells zv.cells t)):=Tr.alloc hg.heap.fresh _;have pV:=hg.new d 0 (.tb t [.d .nilp,.d .nils]) (.cells zv.cells t) (hg.dH (hd d rfl)) ⟨zv.cells,(by show(w.alloc _).heap[if d=d then w.heap.size else L.ρ d]?=_;rw[if_pos rfl];exact heap_alloc_new w _),ak.inj.2 (g5 (F:=F) u6)⟩;exact⟨.pointer (some ⟨w.heap.size,0,none⟩),_,_,by simp[execOp,Instr.alloc,zeroValue,typeInfo,hi,C5,newVar,newRow],.inl rfl,_,F,pV.set (v:=.ptr d 0) (hd d rfl) (by show Value.pointer _=Value.pointer _;simp),tr⟩
 rename_i z _ hz;obtain⟨hlen,hk⟩:=bw hk;obtain⟨i,de,hi,fq,_,_,_,_,_,AG⟩:=hT t ti ht;obtain⟨zv,C5,u6,_⟩:=AG z hz;refine⟨_,hk,uk (c:=.dd z) (dF z d) fun cx r m L F st a w he hh hg=>⟨zv.cells,t,?_,ak.inj.2 (g5 u6)⟩⟩;simp[execOp,Instr.alloc,zeroValue,typeInfo,hi,C5,newVar,newRow]
theorem HB{t:TypeId}{x:Operand}(hk:eS T e h dst (.box t x) K):∃ ws,K ws/\Out P e h ⟨dst,.box t x,ty,pos,after,guard⟩ ws:=by
 simp only[eS]at hk;split at hk;case h_2=>exact hk.elim
 rename_i v d hv;obtain⟨hc,hk⟩:=bw hk;simp only[Bool.and_eq_true]at hc;refine⟨_,hk,uk (Am hc.2) fun cx r m L F st a w he hh hg=>⟨(a.eval x).cells,t,?_,(hg.aD (az he hv)).cells hc.1⟩⟩;simp[execOp,Instr.box,newVar,newRow]
end
end Go.PX
namespace Go.PX
open Go.RowKit
section
variable {yv : Option Nat} {L : Loc} {F : Nat -> Nat} {w : World}
theorem aR.oB{a:V}{v:Value}(h:aR yv L F w a v):ak yv L F w a.cells.a5 v.cells.toList:=by
 by_cases hs:a.cells.ok=true
 ·exact h.cells hs
 ·cases a with
  | d x=>
   cases x with
   | agg cs=>
    obtain⟨l,rfl,hl⟩:=h;exact ak.inj.2 hl
   | tup cs=>
    obtain⟨l,rfl,hl⟩:=h;exact⟨.tuple l,[],rfl,⟨l,rfl,hl⟩,rfl⟩
   | _=>exact absurd rfl hs
  | agg cs=>
   obtain⟨l,rfl,hl⟩:=h;exact hl
  | tup cs=>
   obtain⟨l,rfl,hl⟩:=h;exact⟨.tuple l,[],rfl,⟨l,rfl,hl⟩,rfl⟩
  | _=>exact absurd rfl hs
theorem Cells.mf(c:Cells)(off:Nat)(x:Cells):(c.fR off x).a5=c.a5.take off++x.a5++c.a5.drop (off+x.a5.length):=by
 cases c<;>cases x<;>simp[Cells.fR,Cells.a5,lU,tO,tN,dK]
theorem kI{α:Type}{cs l:List α}{off i:Nat}(h:off<=cs.length)(h1:off<=i)(h2:i<off+l.length):(cs.take off++l++cs.drop (off+l.length))[i]?=l[i-off]?:=by
 rw[List.append_assoc,List.getElem?_append_right (by simp;omega),List.getElem?_append_left (by simp;omega)];simp[Nat.min_eq_left h]
theorem jP{α:Type}{cs l:List α}{off i:Nat}(h:off+l.length<=cs.length)(h1:i<off\/off+l.length<=i):(cs.take off++l++cs.drop (off+l.length))[i]?=cs[i]?:=by
 rcases h1 with h1|h1
 ·rw[List.append_assoc,List.getElem?_append_left (by simp;omega),List.getElem?_take_of_lt h1]
 ·rw[List.getElem?_append_right (by simp;omega),List.getElem?_drop]
  congr 1
  simp;omega
theorem fe{α:Type}{cs l:List α}{off:Nat}(h:off+l.length<=cs.length):(cs.take off++l++cs.drop (off+l.length)).length=cs.length:=by
 simp;omega
theorem ak.fR{cs ds:List V}{l k:List Value}(off:Nat)(h:ak yv L F w cs l)(g:ak yv L F w ds k) :
  ak yv L F w (cs.take off++ds++cs.drop (off+ds.length)) (l.take off++k++l.drop (off+k.length)):=by
 have:=g.length;rw[this];exact((h.take off).append g).append (h.drop _)
theorem aI.Eg(x:Cells)(c:aI):(c.cons x).a5=x.a5::c.a5:=by
 cases x<;>cases c<;>rfl
theorem pI{n:Nat}:∀ {l:List (Nat×V)} {i:Nat} {es:aI},pH n i l=some es->es.a5=l.map (fun p=>p.2.cells.a5)/\l.map (·.1)=List.range' i l.length /\ ∀ p∈l,p.2.cells.a5.length=n
 | [],i,es,h=>by simp only[pH,Option.some.injEq]at h;subst h;simp[aI.a5,cw]
 | (j,v)::r,i,es,h=>by
  simp only[pH]at h;split at h;case h_2=>cases h
  rename_i es' hj hn hr;cases h;have hj:=cT hj;have hn:=cT hn;rw[Cells.hP]at hn;obtain⟨h1,h2,h3⟩:=pI hr;refine⟨by rw[aI.Eg,h1];rfl,by simp[h2,hj,List.range'_succ],fun p hp=>?_⟩;rcases List.mem_cons.1 hp with rfl|hp
  ·exact hn
  ·exact h3 p hp
theorem tl{sz:Nat}:∀ {xs:List V} {vs:List Value},ak yv L F w xs vs->(∀ x∈xs,x.cells.a5.length=sz)->ak yv L F w (xs.flatMap (·.cells.a5)) (vs.flatMap fun v=>v.cells.toList) /\ ∀ v∈vs,v.cells.size=sz
 | [],vs,h,_=>by
  have:vs = []:=h;subst this;exact⟨rfl,by simp⟩
 | x::xs,vs,h,hs=>by
  obtain⟨v,l,rfl,hx,hl⟩:=h;obtain⟨h1,h2⟩:=tl hl fun y hy=>hs y (List.mem_cons_of_mem _ hy);refine⟨by simpa using hx.oB.append h1,fun u hu=>?_⟩;rcases List.mem_cons.1 hu with rfl|hu
  ·have:=hx.oB.length
   rw[hs x (List.mem_cons_self ..)]at this;simpa using this
  ·exact h2 u hu
theorem qV{n:Nat}:∀ {l:List (List V)},nA n l=true -> ∀ e∈l,e.length=n/\bU e=true
 | [],_,_,he=>by cases he
 | x::r,h,e,he=>by
  simp only[nA]at h;split at h;case h_2=>cases h
  rename_i h1 h2;rcases List.mem_cons.1 he with rfl|he
  ·exact⟨cT h1,h2⟩
  ·exact qV h e he
theorem vV{n:Nat}:∀ {l:List (List D)},ig n l=true->nA n (cw l)=true
 | [],_=>rfl
 | x::r,h=>by
  simp only[ig]at h;split at h;case h_2=>cases h
  rename_i h1 h2;simp only[cw,nA,dK,h1,kp,h2];exact vV h
theorem xb{n:Nat}{es:aI}(h:es.ok n=true):∀ e∈es.a5,e.length=n/\bU e=true:=by
 cases es with
 | dd l=>exact qV (vV h)
 | vv l=>exact qV h
theorem kN:∀ {l m:List V},bU l=true->bU m=true->bU (l++m)=true
 | [],_,_,h=>h
 | x::r,m,h,k=>by
  simp only[bU,Bool.and_eq_true]at h;simp[bU,h.1,kN h.2 k]
theorem eK:∀ {l:List (List V)},(∀ e∈l,bU e=true)->bU l.flatten=true
 | [],_=>rfl
 | x::r,h=>by
  rw[List.flatten_cons];exact kN (h x (List.mem_cons_self ..)) (eK fun e he=>h e (List.mem_cons_of_mem _ he))
end
section
variable {P : Program} {T : dJ} {e : Env} {h : ar} {dst : Option Nat} {K : List Wr -> Prop} {ty : TypeId} {pos : String} {after : Array Edge} {guard : Option (Nat × Bool)}
theorem kc{σ:Type}{cx:Cx σ}{r:Option Nat}{m:List Nat}{L:Loc}{F:Nat->Nat}{st:St σ}{a:Act}{w:World}(hg:Good cx r m L F st a w)(he:cP e st.env):∀ {ps:List (Nat×Operand)} {l:List (Nat×V)},partsOf e ps=some l ->
  l.map (·.1)=ps.map (·.1)/\ak cx.yv L F w (l.map (·.2)) (ps.map fun p=>a.eval p.2)
 | [],l,hp=>by simp only[partsOf,Option.some.injEq]at hp;subst hp;exact⟨rfl,rfl⟩
 | (i,x)::r,l,hp=>by
  simp only[partsOf]at hp;split at hp
  ·rename_i v l' hv hl
   cases hp;obtain⟨h1,h2⟩:=kc hg he hl;exact⟨by simp[h1],_,_,rfl,hg.aD (az he hv),h2⟩
  ·cases hp
theorem jl(hT:aY P T){t:TypeId}{ei:nQ}(h:eP T t=some ei):∃ el,P.underlying t=some (.slice el)/\T.get el=some ei:=by
 unfold eP at h;split at h;case h_2=>cases h
 rename_i ti eC;split at h;case h_2=>cases h
 rename_i el hk;obtain⟨d,hu,da⟩:=dC hT eC;rw[hk]at da;exact⟨el,by rw[hu,dL da.symm],h⟩
theorem pG(hT:aY P T){el:TypeId}{ei:nQ}(ic:T.get el=some ei)(h:lK ei=true) :
  ∃ i z,P.info? el=some i/\i.zero=some z/\0<ei.size/\0<ei.bytes/\ei.size=i.size/\ei.bytes=i.bytes/\z.cells.size=i.size:=by
 obtain⟨i,d,hi,hd,cM,BR,_,_,_,hz⟩:=hT el ei ic;simp only[lK,Bool.and_eq_true]at h;obtain⟨⟨h1,h2⟩,h3⟩:=h;unfold Bq at h3;split at h3;case h_2=>cases h3
 rename_i z AG;obtain⟨zv,C5,u6,_⟩:=hz z AG;have hl:=(g5 (F:=fun _=>0) (w:=default) u6).length;have h1:=ua h1;have h2:=ua h2;have h3:=cT h3;exact⟨i,zv,hi,C5,by omega,by omega,cM,BR,by rw[<- cM,<- h3,<- hl];simp⟩
theorem uh(hT:aY P T){t:TypeId}{n:Nat}{ps:Array (Nat×Operand)}(hk:eS T e h dst (.buildSlice t n ps) K):∃ ws,K ws/\Out P e h ⟨dst,.buildSlice t n ps,ty,pos,after,guard⟩ ws:=by
 simp only[eS]at hk;split at hk;case h_2=>exact hk.elim
 rename_i l ei d hl hs;obtain⟨hc,hk⟩:=bw hk;simp only[Bool.and_eq_true]at hc;obtain⟨⟨yb,ec⟩,gG⟩:=hc;have yb:=cT yb;have gG:=kO gG;split at hk;case h_2=>exact hk.elim
 rename_i es mG;obtain⟨hc,hk⟩:=bw hk;simp only[Bool.and_eq_true]at hc;obtain⟨SZ,gd⟩:=hc;obtain⟨el,hu,ic⟩:=jl hT hs;obtain⟨ie,z,kA,TV,cM,BR,dA,oK,I0⟩:=pG hT ic ec;obtain⟨Lp,tD,VT⟩:=pI mG;have VV:=xb SZ;refine⟨_,hk,?_⟩;intro σ cx r m L F st a w he hh hg hd;obtain⟨AB,Lt⟩:=kc hg he hl
 let vs:=ps.toList.map fun p=>a.eval p.2
 have qA:ps.toList.length=n:=by
  have:=congrArg List.length AB;simp only[List.length_map]at this;omega
 have C3:vs.length=n:=by simpa[vs]using qA
 have Ae:∀ x∈l.map (·.2),x.cells.a5.length=ei.size:=by
  intro x hx;obtain⟨p,hp,rfl⟩:=List.mem_map.1 hx;exact VT _ hp
 obtain⟨vO,Lz⟩:=tl Lt Ae;have tJ:(ps.map fun(i,x)=>(i,a.eval x)).toList=(vs.zipIdx 0).map fun x=>(x.2,x.1):=by
  have h1:ps.toList.map (·.1)=List.range' 0 n:=by rw[<- AB,tD,yb]
  apply List.ext_getElem?;intro k;simp only[Array.toList_map,List.getElem?_map,List.getElem?_zipIdx,vs]
  cases hk:ps.toList[k]? with
  | none=>simp
  | some p=>
   have h2:(ps.toList.map (·.1))[k]?=some p.1:=by simp[List.getElem?_map,hk]
   have UJ:k<n:=by
    have:=(List.getElem?_eq_some_iff.1 hk).1;omega
   rw[h1,List.getElem?_range' UJ]at h2;simp at h2;simp[h2]
 let cells:Array Value:=(vs.flatMap fun v=>v.cells.toList).toArray
 have UA:(l.map (·.2)).flatMap (·.cells.a5)=es.a5.flatten:=by rw[Lp,List.flatMap_def,List.map_map];rfl
 have r9:es.a5.length=n:=by rw[Lp];simp[yb]
 have fv:cy ei.size es.a5:=fun e he=>(VV e he).1;have oL:cells.size=n*ei.size:=by
  have h1:=vO.length;rw[UA,ir fv,r9]at h1;simpa[cells,vs]using h1
 have bp:(execOp a.eval ⟨some d,.buildSlice t n ps,ty,pos,after,guard⟩).run P w = .ok (.value (.slice (some ⟨w.heap.size,0,none⟩) n n)) (w.alloc (.cells cells el)):=by
  have:(Instr.buildSlice t n (ps.map fun(i,x)=>(i,a.eval x))).run P w = .ok (.slice (some ⟨w.heap.size,0,none⟩) n n) (w.alloc (.cells cells el)):=by
   rcases Nat.eq_zero_or_pos n with h0|h0
   ·subst h0
    have WC:vs = []:=List.length_eq_zero_iff.1 C3;have Hg:ps = #[]:=by simpa using qA
    subst Hg;have N0:cells = #[]:=by simp[cells,WC]
    rw[N0];simp[Instr.buildSlice,run_underlying hu,sizeOf,typeInfo,kA,Instr.fill,newRow]
    congr 2
    apply Array.eq_empty_of_size_eq_zero;simp
   ·refine run_buildSlice w t el n _ cells ie z hu kA TV (by rw[<- dA];omega) (by rw[<- dA];exact Nat.ne_of_gt (Nat.mul_pos h0 cM)) ?_
    rw[tJ,<- dA];refine Great.fill_whole cM vs _ Lz ?_;simp[C3]
  simp[execOp,this]
 have tr:Tr F w F (w.alloc (.cells cells el)):=Tr.alloc hg.heap.fresh _;have pV:=hg.new d cells.size (.arr ei.size es) (.cells cells el) (hg.dH (hd d rfl)) ⟨cM,fv,.inr ⟨cells,el,(by show(w.alloc _).heap[if d=d then w.heap.size else L.ρ d]?=_;rw[if_pos rfl];exact heap_alloc_new w _),(by simp),(by rw[r9,oL];exact Nat.le_refl _),(by
  rw[r9,<- oL];have:cells.toList.take cells.size=cells.toList:=by rw[<- Array.length_toList,List.take_length]
  rw[this];refine ak.jJ (L:=L) tr (fun i hi=>by simp[hi]) (mN gd) ?_;rw[<- UA];simpa[cells,vs]using vO)⟩⟩
 refine⟨_,_,_,bp,.inl rfl,_,F,pV.set (v:=.sl d ei.size 0 n) (hd d rfl) ⟨_,_,rfl,Nat.le_refl _,cM,.inr ⟨(by simp),(by simp[oL])⟩⟩,tr⟩
theorem uA{yv:Option Nat}{L:Loc}{F:Nat->Nat}{w:World}{place:Nat->Option (Nat×Nat)}{fs:List (Nat×Nat)}(qA:∀ i p,fs[i]?=some p->place i=some p):∀ {l:List (Nat×V)} {vs:List Value} {cs Ps:Cells} {cells:Array Value},
  jh fs cs l=some Ps->ak yv L F w (l.map (·.2)) vs->ak yv L F w cs.a5 cells.toList ->
  ∃ r,Instr.fill place cells ((l.map (·.1)).zip vs)=some r/\ak yv L F w Ps.a5 r.toList
 | [],vs,cs,Ps,cells,h,hv,hc=>by
  simp only[jh,Option.some.injEq]at h;subst h;exact⟨cells,by simp[Instr.fill],hc⟩
 | (i,v)::r,vs,cs,Ps,cells,h,hv,hc=>by
  simp only[jh]at h;obtain⟨x,XE,rfl,hx,Lz⟩:=hv;split at h;case h_2=>cases h
  rename_i off n hi;split at h;case h_2=>cases h
  rename_i Ad Av;have Ad:=cT Ad;have Av:=kO Av;rw[Cells.hP]at Ad Av;have Af:=hx.oB.length;have Ae:=hc.length;have E4:x.cells.size=n:=by rw[<- Ad,<- Af];simp
  obtain⟨g1,g2⟩:=Great.foldl_set off x.cells.toList 0 cells;simp only[Nat.add_zero]at g2;have OA:ak yv L F w (cs.fR off v.cells).a5 ((x.cells.toList.zipIdx 0).foldl (fun cs (y:Value×Nat)=>cs.setIfInBounds (off+y.2) y.1) cells).toList:=by
   rw[Cells.mf];refine .iL ?_ fun k c hk=>?_
   ·rw[fe (by omega)]
    simp[g1]at Ae ⊢;omega
   ·have eW:∀ y,(if off<=k/\k<off+x.cells.toList.length/\k<cells.size then x.cells.toList[k-off]? else cells[k]?)=some y ->
      ((x.cells.toList.zipIdx 0).foldl (fun cs (y:Value×Nat)=>cs.setIfInBounds (off+y.2) y.1) cells).toList[k]?=some y:=fun y hy=>by
     rw[<- g2 k]at hy;simpa using hy
    have oL:cells.size=cs.a5.length:=by simpa using Ae
    by_cases pd:off<=k/\k<off+n
    ·rw[kI (by omega) pd.1 (by omega)]at hk
     obtain⟨y,hy,y5⟩:=ak.get _ hx.oB hk;refine⟨y,eW y ?_,y5⟩;rw[if_pos ⟨pd.1,by simp[E4];omega,by omega⟩];exact hy
    ·rw[jP (by omega) (by omega)]at hk
     obtain⟨y,hy,y5⟩:=ak.get _ hc hk;refine⟨y,eW y ?_,y5⟩;rw[if_neg (by simp[E4];omega)];simpa using hy
  obtain⟨res,Ky,AE⟩:=uA qA h Lz OA;refine⟨res,?_,AE⟩;simp only[List.map_cons,List.zip_cons_cons];unfold Instr.fill;simp only[qA _ _ hi,E4];have oL:cells.size=cs.a5.length:=by simpa using Ae
  rw[if_neg (by simp;omega),<- Ky]
  congr 1
  rw[<- Array.foldl_toList,Array.toList_zipIdx]
theorem run_places(hT:aY P T){w:World}:∀ {fa:List Field} {sz:List (Nat×Nat)},qq T (fa.map fun f=>(f.offset,f.type))=some sz ->
  (fa.mapM fun f=>(do pure (f.offset,<- sizeOf f.type):Sem (Nat×Nat))).run P w = .ok sz w
 | [],sz,h=>by simp only[List.map_nil,qq,Option.some.injEq]at h;subst h;simp
 | f::fa,sz,h=>by
  simp only[List.map_cons,qq]at h;split at h
  ·rename_i i l hi hl
   cases h;have:=run_places hT (w:=w) hl;simp only[List.mapM_cons,Sem.run_bind,dp hT hi,Result.andThen_ok,Sem.run_pure,this]
  ·cases h
theorem aR.val{yv:Option Nat}{L:Loc}{F:Nat->Nat}{w:World}{c:Cells}{l:Array Value}(h:ak yv L F w c.a5 l.toList):aR yv L F w c.val (.agg l):=by
 cases c with
 | dd d=>exact⟨l,rfl,ak.inj.1 h⟩
 | vv d=>exact aR.qd h
theorem vu(size:Nat):∀ (n k i:Nat) (p:Nat×Nat),(sY size (k*size) n)[i]?=some p->some ((k+i)*size,size)=some p
 | 0,k,i,p,h=>by simp[sY]at h
 | n+1,k,0,p,h=>by simpa[sY]using h
 | n+1,k,i+1,p,h=>by
  have h:(sY size (k*size+size) n)[i]?=some p:=by simpa[sY]using h
  rw[show k*size+size=(k+1)*size by rw[Nat.add_mul,Nat.one_mul]]at h;have:=vu size n (k+1) i p h;rw[<- this];congr 3;omega
theorem parts_eval{ps:Array (Nat×Operand)}(a:Act){l:List (Nat×V)}(AB:l.map (·.1)=ps.toList.map (·.1)):(ps.map fun(i,x)=>(i,a.eval x)).toList=(l.map (·.1)).zip (ps.toList.map fun p=>a.eval p.2):=by
 rw[AB];simp only[Array.toList_map];generalize ps.toList=q
 induction q with
 | nil=>rfl
 | cons x q ih=>simp[ih]
theorem Df(hT:aY P T){t:TypeId}{ps:Array (Nat×Operand)}(hk:eS T e h dst (.build t ps) K):∃ ws,K ws/\Out P e h ⟨dst,.build t ps,ty,pos,after,guard⟩ ws:=by
 simp only[eS]at hk;split at hk;case h_2=>exact hk.elim
 rename_i l ti hl eC;split at hk;case h_3=>exact hk.elim
 case h_2=>
  rename_i n el z dv hz;split at hk;case h_2=>exact hk.elim
  rename_i ei ic;split at hk;case h_2=>exact hk.elim
  rename_i cs hf;obtain⟨i,de,hi,fq,_,_,da,_,_,AG⟩:=hT t ti eC;rw[dv]at da;have:=er da.symm;subst this;obtain⟨Z,hZ,u6,_⟩:=AG z hz;refine⟨_,hk,a6 (v:=cs.val) (o:=⟨dst,.build t ps,ty,pos,after,guard⟩) fun cx r m L F st a w he hh hg=>?_⟩;have BX:ak cx.yv L F w (Cells.dd z).a5 Z.cells.toList:=ak.inj.2 (g5 u6);obtain⟨AB,Lt⟩:=kc hg he hl;obtain⟨res,hr,AE⟩:=uA (place:=fun i=>some (i*ei.size,ei.size)) (fun i p h=>by have:=vu ei.size n 0 i p (by rw[Nat.zero_mul];exact h);rw[Nat.zero_add]at this;exact this) hf Lt BX;have tJ:=parts_eval a AB;refine⟨.agg res,?_,aR.val AE⟩;have h3:(Instr.build t (ps.map fun(i,x)=>(i,a.eval x))).run P w = .ok (.agg res) w:=by
   unfold Instr.build;simp only[Sem.run_bind,zeroValue,typeInfo,run_program,hi,Result.andThen_ok,Sem.run_pure,hZ,run_underlying fq,dp hT ic];rw[tJ,hr];simp
  simp[execOp,h3]
 rename_i fs z dv hz;split at hk;case h_2=>exact hk.elim
 rename_i sz cM;split at hk;case h_2=>exact hk.elim
 rename_i cs hf;obtain⟨i,de,hi,fq,_,_,da,_,_,AG⟩:=hT t ti eC;rw[dv]at da;obtain⟨fa,rfl,rfl,_⟩:=gh da.symm;obtain⟨Z,hZ,u6,_⟩:=AG z hz;refine⟨_,hk,a6 (v:=cs.val) (o:=⟨dst,.build t ps,ty,pos,after,guard⟩) fun cx r m L F st a w he hh hg=>?_⟩;have BX:ak cx.yv L F w (Cells.dd z).a5 Z.cells.toList:=ak.inj.2 (g5 u6);obtain⟨AB,Lt⟩:=kc hg he hl;obtain⟨res,hr,AE⟩:=uA (place:=fun i=>sz[i]?) (fun _ _ h=>h) hf Lt BX;have tJ:=parts_eval a AB;have qA:=run_places hT (w:=w) cM;refine⟨.agg res,?_,aR.val AE⟩;have h2:(fa.mapM fun f=>(do pure (f.offset,<- sizeOf f.type):Sem (Nat×Nat))).run P w = .ok sz.toArray w:=by
  rw[Array.mapM_eq_mapM_toList];simp only[Sem.run_map,qA,Result.andThen_ok]
 have h3:(Instr.build t (ps.map fun(i,x)=>(i,a.eval x))).run P w = .ok (.agg res) w:=by
  unfold Instr.build;simp only[Sem.run_bind,zeroValue,typeInfo,run_program,hi,Result.andThen_ok,Sem.run_pure,hZ,run_underlying fq,h2];rw[tJ];have:(fun(x:Nat)=>sz.toArray[x]?)=fun(i:Nat)=>sz[i]?:=by funext i;simp
  rw[this,hr];simp
 simp[execOp,h3]
theorem l8(hT:aY P T){w:World}{t:TypeId}{ti:nQ}(ht:T.get t=some ti){b off:Nat}{l:Array Value}{E:TypeId}(hl:w.heap[b]?=some (.cells l E (0,0))){v:Value}
  (hn:v.cells.size=ti.size) (ho:off+ti.size<=l.size) (h1:∀ u∈v.cells.toList,u.oneCell'=true) :
  (storeVar t ⟨b,off,none⟩ v).run P w = .ok () (w.setRow b (l.toList.take off++v.cells.toList++l.toList.drop (off+v.cells.toList.length)).toArray):=by
 have:=run_storeCells_at (P:=P) b off E v.cells.toList 0 l w hl (by simp[hn];omega) h1;simp only[Nat.add_zero,Array.length_toList,hn]at this;simp[storeVar,dp hT ht,hn,this]
theorem zQ{α:Type}{sz:Nat}{es:List (List α)}(hl:cy sz es){i:Nat}{e:List α}(hi:es[i]?=some e){x:List α}{o:Nat}(ho:o+x.length<=sz) :
  (es.set i (e.take o++x++e.drop (o+x.length))).flatten=es.flatten.take (i*sz+o)++x++es.flatten.drop (i*sz+o+x.length):=by
 induction es generalizing i with
 | nil=>simp at hi
 | cons f r ih=>
  have hf:=hl f (List.mem_cons_self ..)
  cases i with
  | zero=>
   simp at hi;subst hi;simp only[List.set_cons_zero,List.flatten_cons,Nat.zero_mul,Nat.zero_add];rw[List.take_append_of_le_length (by omega),List.drop_append_of_le_length (by omega)];simp
  | succ i=>
   simp only[List.set_cons_succ,List.flatten_cons];rw[ih (fun e he=>hl e (List.mem_cons_of_mem _ he)) (by simpa using hi)];have e1:(i+1)*sz+o=f.length+(i*sz+o):=by rw[Nat.succ_mul];omega
   have e2:(i+1)*sz+o+x.length=f.length+(i*sz+o+x.length):=by rw[Nat.succ_mul];omega
   rw[e2,e1,List.take_length_add_append,List.drop_length_add_append];simp
theorem rZ{α:Type}{l Y:List α}{o n:Nat}(h:o+Y.length<=n)(hn:n<=l.length) :
  (l.take o++Y++l.drop (o+Y.length)).take n=(l.take n).take o++Y++(l.take n).drop (o+Y.length):=by
 have e1:(l.take n).length=n:=by rw[List.length_take];omega
 apply List.ext_getElem?;intro k;by_cases hk:k<n
 ·rw[List.getElem?_take_of_lt hk]
  by_cases pd:o<=k/\k<o+Y.length
  ·rw[kI (by omega) pd.1 pd.2,kI (by omega) pd.1 pd.2]
  ·rw[jP (by omega) (by omega),jP (by omega) (by omega),List.getElem?_take_of_lt hk]
 ·rw[List.getElem?_eq_none (by rw[List.length_take];omega),List.getElem?_eq_none (by rw[fe (by omega)];omega)]
theorem GI(es:aI)(n:Nat)(x:Cells):(es.set n x).a5=es.a5.set n x.a5:=by
 cases es<;>cases x<;>simp[aI.set,aI.a5,Cells.a5,cn,List.map_set]
theorem Dl(hT:aY P T){t:TypeId}{x y:Operand}(hk:eS T e h dst (.store t x y) K):∃ ws,K ws/\Out P e h ⟨dst,.store t x y,ty,pos,after,guard⟩ ws:=by
 simp only[eS]at hk
 cases dst with
 | some d=>exact hk.elim
 | none=>
 simp only[FU]at hk;split at hk;case h_2=>exact hk.elim
 rename_i u v ti hu hv ht;obtain⟨hc,hk⟩:=bw hk;simp only[Bool.and_eq_true]at hc;obtain⟨hlen,ec⟩:=hc;have hlen:=cT hlen;rw[Cells.hP]at hlen;split at hk
 ·rename_i id off hp
  split at hk;case h_3=>exact hk.elim
  ·rename_i cs Gg
   obtain⟨hb,hk⟩:=bw hk;have hb:=kO hb;rw[Cells.hP]at hb;refine⟨_,hk,?_⟩;intro σ cx r m L F st a w he hh hg hd;unfold placeOf at hp;split at hp<;>cases hp
   have cF:a.eval x = .pointer (some ⟨L.ρ id,off,none⟩):=hg.aD (az he hu);have y0:=(hg.aD (az he hv)).oB;have C3:=y0.length;have h0:=hh _ _ Gg;obtain⟨l,E,hl,hr⟩:=hg.heap.obj id _ h0;have G8:=hr.length;have sd:=l8 hT (w:=w) ht hl (off:=off) (v:=a.eval y) (by rw[<- hlen,<- C3];simp) (by simp at G8;omega) (y0.one (by rw[<- Cells.ok_eq];exact ec));obtain⟨g1,g2⟩:=hg.obj (o:=.box (cs.fR off v.cells)) h0 trivial (w':=w.setRow (L.ρ id) (l.toList.take off++(a.eval y).cells.toList++l.toList.drop (off+(a.eval y).cells.toList.length)).toArray) rfl rfl rfl (size_setRow _ _ _) (fun b hb=>setRow_other _ _ _ _ hb)
    (by rw[hl];intro ds e;cases e) (by rw[hl];intro lp e;cases e)
    ⟨_,E,setRow_heap _ _ _ _ _ _ hl,by
     rw[Cells.mf];have tr:Tr F w F (w.setRow (L.ρ id) (l.toList.take off++(a.eval y).cells.toList++l.toList.drop (off+(a.eval y).cells.toList.length)).toArray):=
      .gM rfl rfl rfl (by simp) (fun _=>Nat.le_refl _) hg.heap.fresh fun b _ hF=>setRow_other _ _ _ _ (by rintro rfl;have:=(hg.heap.own id _ h0 trivial).1;omega)
     exact ak.mono tr _ _ (fun _ _=>⟨rfl,rfl⟩) (by simpa using ak.fR off hr y0)⟩
   exact⟨undef,_,.skip,by simp[execOp,Instr.storeAt,cF,Instr.sureAddr,sd],.inr ⟨rfl,rfl⟩,L,F,g1,g2⟩
  ·rename_i tt vl Gg
   obtain⟨hb,hk⟩:=bw hk;have hb:=kO hb;refine⟨_,hk,?_⟩;intro σ cx r m L F st a w he hh hg hd;unfold placeOf at hp;split at hp<;>cases hp
   have cF:a.eval x = .pointer (some ⟨L.ρ id,off,none⟩):=hg.aD (az he hu);have y0:=(hg.aD (az he hv)).oB;have C3:=y0.length;have h0:=hh _ _ Gg;obtain⟨l,hl,hr⟩:=hg.heap.obj id _ h0;have G8:=hr.length;have sd:=l8 hT (w:=w) ht hl (off:=off) (v:=a.eval y) (by rw[<- hlen,<- C3];simp) (by simp at G8;omega) (y0.one (by rw[<- Cells.ok_eq];exact ec));obtain⟨g1,g2⟩:=hg.obj (o:=.tb tt ((Cells.vv vl).fR off v.cells).a5) h0 trivial (w':=w.setRow (L.ρ id) (l.toList.take off++(a.eval y).cells.toList++l.toList.drop (off+(a.eval y).cells.toList.length)).toArray) rfl rfl rfl (size_setRow _ _ _) (fun b hb=>setRow_other _ _ _ _ hb)
    (by rw[hl];intro ds e;cases e) (by rw[hl];intro lp e;cases e)
    ⟨_,setRow_heap _ _ _ _ _ _ hl,by
     rw[Cells.mf];show ak cx.yv L F _ (vl.take off++v.cells.a5++vl.drop (off+v.cells.a5.length)) _;have tr:Tr F w F (w.setRow (L.ρ id) (l.toList.take off++(a.eval y).cells.toList++l.toList.drop (off+(a.eval y).cells.toList.length)).toArray):=
      .gM rfl rfl rfl (by simp) (fun _=>Nat.le_refl _) hg.heap.fresh fun b _ hF=>setRow_other _ _ _ _ (by rintro rfl;have:=(hg.heap.own id _ h0 trivial).1;omega)
     exact ak.mono tr _ _ (fun _ _=>⟨rfl,rfl⟩) (by simpa using ak.fR off hr y0)⟩
   exact⟨undef,_,.skip,by simp[execOp,Instr.storeAt,cF,Instr.sureAddr,sd],.inr ⟨rfl,rfl⟩,L,F,g1,g2⟩
 ·rename_i id sz i off hp
  split at hk;case h_2=>exact hk.elim
  rename_i n es mG;obtain⟨hn,eW⟩:=bw hk;have u1:=cT hn;clear hk hn;subst u1;obtain⟨c,J0,hk⟩:=yz eW;obtain⟨hb,hk⟩:=bw hk;have hb:=kO hb;rw[Cells.hP]at hb;refine⟨_,hk,?_⟩;intro σ cx r m L F st a w he hh hg hd;unfold placeOf at hp;split at hp<;>cases hp
  have cF:a.eval x = .pointer (some ⟨L.ρ id,i*n+off,none⟩):=hg.aD (az he hu);have y0:=(hg.aD (az he hv)).oB;have C3:=y0.length;have h0:=hh _ _ mG;obtain⟨UQ,fv,gf⟩:=hg.heap.obj id _ h0;rcases gf with⟨xy,_⟩|⟨l,E,hl,hκ,cM,hr⟩
  ·rw[xy]at J0;simp at J0
  have Ae:c.a5.length=n:=fv _ (List.mem_of_getElem? J0);have Gi:i<es.a5.length:=(List.getElem?_eq_some_iff.1 J0).1;have V5:i*n+n<=es.a5.length*n:=by rw[<- Nat.succ_mul];exact Nat.mul_le_mul_right _ Gi
  have kW:aG L id (.arr n es):=by
   show L.κ id≠0;have:0<es.a5.length*n:=Nat.mul_pos (by omega) UQ;omega
  have sd:=l8 hT (w:=w) ht hl (off:=i*n+off) (v:=a.eval y) (by rw[<- hlen,<- C3];simp) (by omega) (y0.one (by rw[<- Cells.ok_eq];exact ec));have TR:(a.eval y).cells.toList.length=ti.size:=by rw[C3,hlen]
  have Hi:=fe (cs:=l.toList) (l:=(a.eval y).cells.toList) (off:=i*n+off) (by rw[TR];simp;omega);generalize qP:(l.toList.take (i*n+off)++(a.eval y).cells.toList++l.toList.drop (i*n+off+(a.eval y).cells.toList.length)).toArray=c' at sd;have ce:c'.toList=l.toList.take (i*n+off)++(a.eval y).cells.toList++l.toList.drop (i*n+off+(a.eval y).cells.toList.length):=by rw[<- qP]
  have u0:c'.size=l.size:=by rw[<- ce]at Hi;simpa using Hi
  have tr:Tr F w F (w.setRow (L.ρ id) c'):=
   .gM rfl rfl rfl (by simp) (fun _=>Nat.le_refl _) hg.heap.fresh fun b _ hF=>setRow_other _ _ _ _ (by rintro rfl;have:=(hg.heap.own id _ h0 kW).1;omega)
  have C0:((es.set i (c.fR off v.cells)).a5)=es.a5.set i (c.a5.take off++v.cells.a5++c.a5.drop (off+v.cells.a5.length)):=by rw[GI,Cells.mf]
  obtain⟨g1,g2⟩:=hg.obj (o:=.arr n (es.set i (c.fR off v.cells))) h0 kW (w':=w.setRow (L.ρ id) c') rfl rfl rfl (size_setRow _ _ _) (fun b hb=>setRow_other _ _ _ _ hb)
   (by rw[hl];intro ds e;cases e) (by rw[hl];intro lp e;cases e) (by
    refine⟨UQ,?_,.inr ⟨c',E,setRow_heap _ _ _ _ _ _ hl,?_,?_,?_⟩⟩
    ·rw[C0]
     intro e he;rcases List.mem_or_eq_of_mem_set he with he|rfl
     ·exact fv e he
     ·rw[fe (by omega)];exact Ae
    ·rw[u0,hκ]
    ·rw[C0,List.length_set,u0];exact cM
    ·rw[C0,List.length_set,zQ fv J0 (by omega),ce]
     refine ak.mono tr _ _ (fun _ _=>⟨rfl,rfl⟩) ?_;have h1:=ak.fR (i*n+off) hr y0;have e1:(l.toList.take (i*n+off)++(a.eval y).cells.toList++l.toList.drop (i*n+off+(a.eval y).cells.toList.length)).take (es.a5.length*n) =
       (l.toList.take (es.a5.length*n)).take (i*n+off)++(a.eval y).cells.toList++(l.toList.take (es.a5.length*n)).drop (i*n+off+(a.eval y).cells.toList.length):=by
      exact rZ (by omega) (by simp;omega)
     rw[e1];exact h1)
  exact⟨undef,_,.skip,by simp[execOp,Instr.storeAt,cF,Instr.sureAddr,sd],.inr ⟨rfl,rfl⟩,L,F,g1,g2⟩
 ·exact hk.elim
end
end Go.PX
